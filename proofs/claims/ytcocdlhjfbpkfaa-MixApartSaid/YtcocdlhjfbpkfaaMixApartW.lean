/- MixApart: its walk. -/
import Derived.Test.YtcocdlhjfbpkfaaBytesRow
import Derived.BigRegion
namespace Go.Proofs.Ytcocdlhjfbpkfaa
open Go.RowKit Plain
theorem eqId (l m : List Nat) (hl : l.length = 8) (hm : m.length = 8) (b : Bool) (hb : decide (l = m) = b) : (∀ wx, (Op.equal 51 (.agg (bC l)) (.agg (bC m))).run Try.prog wx = .ok b wx) ∧ (∀ wx, (binOp .eql 51 (.agg (bC l)) (.agg (bC m))).run Try.prog wx = .ok (.bool b) wx) ∧
    (∀ (x y : Operand) (wx : World), (eqGuard .eql 51 x y (.agg (bC l)) (.agg (bC m))).run Try.prog wx = .ok () wx) := by
  have hsome : (Try.prog.info? 5).isSome = true := by kernel_rfl
  obtain ⟨inf, hi⟩ := Option.isSome_iff_exists.1 hsome
  subst hb
  refine ⟨fun wx => run_equal_bytes wx Try.underlying51 Try.underlying5 hi (by kernel_rfl) l m hl hm, fun wx => run_eql_bytes wx Try.underlying51 Try.underlying5 hi (by kernel_rfl) l m hl hm, fun x y wx => ?_⟩
  have h : Try.prog.eqGuardType Try.prog.depth 51 = false := by kernel_rfl
  simp [eqGuard, h, go_sem, Sem.run_bind, Result.andThen]
theorem val_conv {P : Program} {o : Oper} {a : Act} {x : Operand} {f t : TypeId} {v u : Value} {w : World} (ho : o.op = .convert f t x) (hx : a.eval x = v) (hc : (convert f t v).run P w = .ok u w) : (execOp a.eval o).run P w = .ok (.value u) w := by
  unfold execOp
  simp only [ho, hx, Sem.run_bind, hc, Result.andThen_ok, Sem.run_pure]
theorem val_eqId {P : Program} {o : Oper} {a : Act} {x y : Operand} {t t2 : TypeId} {u v : Value} {b : Bool} {w : World} (ho : o.op = .binOp .eql t x y t2) (hx : a.eval x = u) (hy : a.eval y = v) (hr : (binOp .eql t u v).run P w = .ok (.bool b) w) (hg : (eqGuard .eql t x y u v).run P w = .ok () w) : (execOp a.eval o).run P w = .ok (.value (.bool b)) w := by
  unfold execOp
  simp only [ho, hx, hy, Sem.run_bind, hr, hg, Sem.run_pure, Result.andThen_ok]
theorem hsum_ab : hsum (strN ⟨#[97]⟩) ≠ hsum (strN ⟨#[98]⟩) := fun h => by
  have := hsum_apart 0 (strN ⟨#[97]⟩) (strN ⟨#[98]⟩) (strN_lt _) (strN_lt _) (by decide) (by decide) (by decide) (by decide) h
  exact absurd this (by decide)
theorem be8_length (h : Nat) : (be8 h).length = 8 := rfl
theorem id_bC (s : ByteArray) (w : World) (hs : s.size ≤ 9223372036854775807) : Calls Try.prog 25 #[.string s] w fun e w' => e = .returned (.agg (bC (be8 (hsum (strN s))))) ∧ Below w.heap.size w w' := id_any s w hs
set_option maxRecDepth 100000 in
set_option maxHeartbeats 2000000 in
theorem mixApart_any (s : ByteArray) (p : Int) (bts : Nat) (w : World) (hs : s.size ≤ 140737488351232) :
    Calls Try.prog 12 #[.string s, .int .i64 p, .int .u64 (bts : Int)] w fun e w' => e = .returned (.bool true) ∧ Below w.heap.size w w' := by
  have SA := Lib.hid fun wx => hsum_any ⟨#[97]⟩ wx (by decide)
  have SB := Lib.hid fun wx => hsum_any ⟨#[98]⟩ wx (by decide)
  have IA := Lib.hid fun wx => id_bC ⟨#[97]⟩ wx (by decide)
  have IB := Lib.hid fun wx => id_bC ⟨#[98]⟩ wx (by decide)
  have hab := hsum_ab
  have l1 := hsum_lt (strN ⟨#[97]⟩)
  have l2 := hsum_lt (strN ⟨#[98]⟩)
  generalize hsum (strN ⟨#[97]⟩) = a at *
  generalize hsum (strN ⟨#[98]⟩) = b at *
  have hne : ((a : Int) == (b : Int)) = false := by rw [beq_eq_false_iff_ne]; omega
  have hne2 : ¬ ((a : Int) = (b : Int)) := by omega
  have hne3 : ¬ (a = b) := hab
  obtain ⟨E1, E2, E3⟩ := eqId (be8 a) (be8 b) rfl rfl false (decide_eq_false fun h => hab (be8_inj l1 l2 h))
  generalize bC (be8 a) = CA at *
  generalize bC (be8 b) = CB at *
  clear l1 l2 hab
  have hemp : s.toList.isEmpty = decide (s.size = 0) := by
    have hl : s.data.toList.length = s.size := by rw [Array.length_toList]; rfl
    rw [Lib.toList_data]
    cases hd : s.data.toList with
    | nil => rw [hd] at hl; simp at hl; simp [← hl]
    | cons a l => rw [hd] at hl; simp at hl; simp [← hl]
  by_cases he : s.size = 0
  · have he2 : s.toList.isEmpty = true := by rw [hemp]; exact decide_eq_true he
    clear hemp
    go_enter Try.func12, Try.ntmps12
    go_wp2_with (first | (go_at_call 24; first | (with_reducible refine (SA.out _).mono ?_; rintro e w1 ⟨rfl, hb1⟩) | (with_reducible refine (SB.out _).mono ?_; rintro e w2 ⟨rfl, hb2⟩)) | (go_at_call 25; first | (with_reducible refine (IA.out _).mono ?_; rintro e w3 ⟨rfl, hb3⟩) | (with_reducible refine (IB.out _).mono ?_; rintro e w4 ⟨rfl, hb4⟩)))
    go_ret
    exact ⟨rfl, Below.step (Below.step (Below.step hb1 hb2) hb3) hb4⟩
  · have he2 : s.toList.isEmpty = false := by rw [hemp]; exact decide_eq_false he
    clear hemp
    have hconv := fun (wx : World) (x : ByteArray) => Lib.run_convert_string_bytes (P := Try.prog) wx 9 22 5 x Try.underlying9 Try.underlying22 Try.underlying5
    have HR := Lib.hid fun wx => rest_any p (((s.size : Int) + 7) / 8) wx (by omega) (by omega)
    have hw7 : IntKind.i64.wrap ((s.size : Int) + 7) = (s.size : Int) + 7 := wraps_i64 _ (by omega) (by omega)
    go_enter Try.func12, Try.ntmps12
    go_wp2_with (first | (go_at_call 26; refine (HR.out _).mono ?_; rintro e w5 ⟨⟨r, hr, rfl⟩, rfl⟩; have w8 : IntKind.i64.wrap (8 * (r : Int)) = 8 * (r : Int) := wraps_i64 _ (by omega) (by omega); have ws : IntKind.i64.wrap ((s.size : Int) - 8 * (r : Int)) = (s.size : Int) - 8 * (r : Int) := wraps_i64 _ (by omega) (by omega)) | (go_at_call 24; first | (with_reducible refine (SA.out _).mono ?_; rintro e w1 ⟨rfl, hb1⟩) | (with_reducible refine (SB.out _).mono ?_; rintro e w2 ⟨rfl, hb2⟩)) | (go_at_call 25; first | (with_reducible refine (IA.out _).mono ?_; rintro e w3 ⟨rfl, hb3⟩) | (with_reducible refine (IB.out _).mono ?_; rintro e w4 ⟨rfl, hb4⟩)))
    have B5 := Below.step (Below.step (Below.step hb1 hb2) hb3) hb4
    have hn50 := B5.size
    have B6 := Lib.hid (Below.step B5 (bytesWorld_below (w := w5) 5 s))
    have C6 := Lib.hid (crow_bytes w5 5 s)
    clear hb1 hb2 hb3 hb4 B5 hconv SA SB IA IB hne hne2 hne3 E1 E2 E3 HR hw7
    generalize Lib.bytesWorld w5 5 s = w6 at *
    generalize w5.heap.size = n5 at *
    generalize grownCap w5 s.size 0 5 = cp at *
    obtain ⟨m, hm⟩ : ∃ m : Nat, min 8 ((s.size : Int) - 8 * (r : Int)) = (m : Int) := ⟨(min 8 ((s.size : Int) - 8 * (r : Int))).toNat, by omega⟩
    have hm8 : m ≤ 8 := by omega
    have hms : 8 * r + m ≤ s.size := by omega
    rw [hm]
    clear hm hr w8 ws
    go_loopw [34] (fun i wr => ∃ (k : Nat) (l : List Nat), k ≤ m ∧ l.length = s.size ∧ (∀ c ∈ l, c < 256) ∧ l.take (8 * r) = (strN s).take (8 * r) ∧ l.drop (8 * r + 8) = (strN s).drop (8 * r + 8) ∧ CRow wr n5 l ∧ w.heap.size ≤ n5 ∧ Below w.heap.size w wr ∧ i = .int .i64 k) (fun i _ => m - (intOf i).toNat)
    case atStart => exact ⟨0, strN s, Nat.zero_le _, strN_length s, strN_lt s, rfl, rfl, C6.out, hn50, B6.out, rfl⟩
    case round =>
      obtain ⟨k, l, hk, hl, hlb, htk, hdr, hC, hn5, hB, rfl⟩ := hrel
      have HC := Lib.hid hC
      have HB := Lib.hid hB
      have HLB := Lib.hid hlb
      have HTK := Lib.hid htk
      have HDR := Lib.hid hdr
      clear hC hB hlb htk hdr C6 B6
      by_cases hlt : k < m
      · have c := HC.out.cell (k := 8 * r + k) (by omega)
        have f := HC.out.frozen (k := 8 * r + k) (by omega)
        have hb := HLB.out (l.getD (8 * r + k) 0) (by rw [List.getD_eq_getElem?_getD, List.getElem?_eq_getElem (by omega)]; exact List.getElem_mem _)
        generalize l.getD (8 * r + k) 0 = x at *
        have i0 : (0 : Int) ≤ 8 * (r : Int) + (k : Int) := by omega
        have i1 : 8 * (r : Int) + (k : Int) < (s.size : Int) := by omega
        have wi : IntKind.i64.wrap (8 * (r : Int) + (k : Int)) = 8 * (r : Int) + (k : Int) := wraps_i64 _ (by omega) (by omega)
        have wk : IntKind.i64.wrap (8 * (k : Int)) = 8 * (k : Int) := wraps_i64 _ (by omega) (by omega)
        have ti : (8 * (r : Int) + (k : Int)).toNat = 8 * r + k := by omega
        have tk : (8 * (k : Int)).toNat = 8 * k := by omega
        obtain ⟨y, hy⟩ : ∃ y : Nat, y = bts / 2 ^ (8 * k) % 256 := ⟨_, rfl⟩
        have hy256 : y < 256 := by rw [hy]; exact Nat.mod_lt _ (by decide)
        have ey : ((bts : Int) / 2 ^ (8 * k) % 256) = (y : Int) := by rw [hy]; simp
        have hz : x ^^^ y < 2 ^ 8 := Nat.xor_lt_two_pow hb hy256
        have hx : bits .xor .u8 (x : Int) (y : Int) = ((x ^^^ y : Nat) : Int) := u8_xor_nat x y hb hy256
        clear hy
        generalize x ^^^ y = z at *
        go_wp2
        go_region
        go_wp2
        go_roundw
        case rel =>
          refine ⟨k + 1, l.set (8 * r + k) z, by omega, by rw [List.length_set]; exact hl, ?_, by rw [take_set_le _ _ _ _ (by omega)]; exact HTK.out, by rw [drop_set_lt _ _ _ _ (by omega)]; exact HDR.out, (HC.out.set _ _).drew, hn5, (HB.out.setCell (p := ⟨n5, 8 * r + k, none⟩) hn5 _).drew, by go_num⟩
          intro c hc
          rcases List.mem_or_eq_of_mem_set hc with h1 | rfl
          · exact HLB.out c h1
          · exact hz
        case measure => simp [intOf]; omega
      · obtain rfl : k = m := by omega
        go_wp2
        have hSall : ∀ w', Below wr.heap.size wr w' → (CRow w' n5 l ∧ Below wr.heap.size wr w') := fun w' hb => ⟨HC.out.below hb, hb⟩
        have HS := Lib.hid hSall
        have hts : (strOf l).size = s.size := by rw [strOf_size, hl]
        have htl : strN (strOf l) = l := strN_strOf l HLB.out
        have hcv : ∀ w', CRow w' n5 l → (convert 22 9 (.slice (some ⟨n5, 0, none⟩) s.size cp)).run Try.prog w' = .ok (.string (strOf l)) w' := fun w' hc => by
          have h := Lib.run_convert_whole (P := Try.prog) w' 22 5 9 Try.underlying22 Try.underlying5 Try.underlying9 n5 0 (strOf l) (hc.bytes _ htl) cp
          rw [hts] at h
          exact h
        have S1 := Lib.hid fun wx => hsum_any s wx (by omega)
        have S2 := Lib.hid fun wx => hsum_any (strOf l) wx (by omega)
        have I1 := Lib.hid fun wx => id_bC s wx (by omega)
        have I2 := Lib.hid fun wx => id_bC (strOf l) wx (by omega)
        have x1 := hsum_lt (strN s)
        have x2 := hsum_lt l
        rw [htl] at S2 I2
        have hap : hsum (strN s) = hsum l → strN s = l := fun h => hsum_apart r (strN s) l (strN_lt s) HLB.out (by rw [strN_length, hl]) (by rw [strN_length, m64]; omega) HTK.out.symm HDR.out.symm h
        clear hSall HTK HDR hlt hk
        refine wp_region_noPanic ?_
        refine wp_region_held_drew (S := fun w' => (CRow w' n5 l ∧ Below wr.heap.size wr w')) (by kernel_rfl) (HS.out _ (Below.drew (Below.refl _ _))) (fun _ => ?_)
        have HH0 := Lib.hid (Below.drew (Below.refl wr.heap.size wr))
        generalize wr.drew = v0 at *
        by_cases hq : strN s = l
        · have hst : strOf l = s := by rw [← hq, strOf_strN]
          rw [hst] at hcv
          have HCV := Lib.hid hcv
          clear hcv S2 I2 hap hts htl hst hq x1 x2
          generalize hsum (strN s) = x at *
          obtain ⟨E1, E2, E3⟩ := eqId (be8 x) (be8 x) rfl rfl true (by simp)
          generalize bC (be8 x) = C1 at *
          have E2 := Lib.hid E2
          have E3 := Lib.hid E3
          clear E1
          refine take_val 0 (.string s) rfl (by kernel_rfl) (by kernel_rfl) (by kernel_rfl) (fun _ _ _ _ h => h) (by rfl) rfl (fun w _ => by go_simp) (HS.out _ HH0.out) ?_
          try simp only [List.set_cons_zero, List.set_cons_succ]
          refine take_val 2 (.slice (some ⟨n5, 0, none⟩) s.size cp) rfl (by kernel_rfl) (by kernel_rfl) (by kernel_rfl) (fun _ _ _ _ h => h) (by rfl) rfl (fun w _ => by go_simp) (HS.out _ HH0.out) ?_
          try simp only [List.set_cons_zero, List.set_cons_succ]
          refine take_val 3 (.string s) rfl (by kernel_rfl) (by kernel_rfl) (by kernel_rfl) (fun _ _ _ _ h => h) (by rfl) rfl (fun w hSw => val_conv rfl rfl (HCV.out w hSw.1)) (HS.out _ HH0.out) ?_
          try simp only [List.set_cons_zero, List.set_cons_succ]
          refine take_val 6 (.string s) rfl (by kernel_rfl) (by kernel_rfl) (by kernel_rfl) (fun _ _ _ _ h => h) (by rfl) rfl (fun w _ => by go_simp) (HS.out _ HH0.out) ?_
          try simp only [List.set_cons_zero, List.set_cons_succ]
          refine take_val 7 (.slice (some ⟨n5, 0, none⟩) s.size cp) rfl (by kernel_rfl) (by kernel_rfl) (by kernel_rfl) (fun _ _ _ _ h => h) (by rfl) rfl (fun w _ => by go_simp) (HS.out _ HH0.out) ?_
          try simp only [List.set_cons_zero, List.set_cons_succ]
          refine take_val 8 (.string s) rfl (by kernel_rfl) (by kernel_rfl) (by kernel_rfl) (fun _ _ _ _ h => h) (by rfl) rfl (fun w hSw => val_conv rfl rfl (HCV.out w hSw.1)) (HS.out _ HH0.out) ?_
          try simp only [List.set_cons_zero, List.set_cons_succ]
          refine take_val 9 (.bool true) rfl (by kernel_rfl) (by kernel_rfl) (by kernel_rfl) (fun _ _ _ _ h => h) (by rfl) rfl (fun w _ => by go_simp) (HS.out _ HH0.out) ?_
          try simp only [List.set_cons_zero, List.set_cons_succ]
          refine one_ready 1 (by kernel_rfl) rfl (by rfl) (fun K hK => ?_)
          go_simp
          refine (S1.out v0).mono ?_
          rintro e v1 ⟨rfl, hb⟩
          go_wp2_with fail
          refine hK.out _ _ (HS.out _ (Below.step HH0.out hb)) ?_
          clear hK K
          try simp only [Act.put, List.setIfInBounds_toArray, List.set_cons_zero, List.set_cons_succ]
          have HH2 := Lib.hid (Below.step HH0.out hb)
          clear hb HH0
          refine one_ready 4 (by kernel_rfl) rfl (by rfl) (fun K hK => ?_)
          go_simp
          refine (S1.out v1).mono ?_
          rintro e v3 ⟨rfl, hb⟩
          go_wp2_with fail
          refine hK.out _ _ (HS.out _ (Below.step HH2.out hb)) ?_
          clear hK K
          try simp only [Act.put, List.setIfInBounds_toArray, List.set_cons_zero, List.set_cons_succ]
          have HH4 := Lib.hid (Below.step HH2.out hb)
          clear hb HH2
          refine take_val 5 (.bool true) rfl (by kernel_rfl) (by kernel_rfl) (by kernel_rfl) (fun _ _ _ _ h => h) (by rfl) rfl (fun w _ => by go_simp) (HS.out _ HH4.out) ?_
          try simp only [List.set_cons_zero, List.set_cons_succ]
          refine take_val 10 (.bool true) rfl (by kernel_rfl) (by kernel_rfl) (by kernel_rfl) (fun _ _ _ _ h => h) (by rfl) rfl (fun w _ => by go_simp) (HS.out _ HH4.out) ?_
          try simp only [List.set_cons_zero, List.set_cons_succ]
          refine take_val 11 (.bool true) rfl (by kernel_rfl) (by kernel_rfl) (by kernel_rfl) (fun _ _ _ _ h => h) (by rfl) rfl (fun w _ => by go_simp) (HS.out _ HH4.out) ?_
          try simp only [List.set_cons_zero, List.set_cons_succ]
          refine take_val 12 (.string s) rfl (by kernel_rfl) (by kernel_rfl) (by kernel_rfl) (fun _ _ _ _ h => h) (by rfl) rfl (fun w _ => by go_simp) (HS.out _ HH4.out) ?_
          try simp only [List.set_cons_zero, List.set_cons_succ]
          refine take_val 14 (.slice (some ⟨n5, 0, none⟩) s.size cp) rfl (by kernel_rfl) (by kernel_rfl) (by kernel_rfl) (fun _ _ _ _ h => h) (by rfl) rfl (fun w _ => by go_simp) (HS.out _ HH4.out) ?_
          try simp only [List.set_cons_zero, List.set_cons_succ]
          refine take_val 15 (.string s) rfl (by kernel_rfl) (by kernel_rfl) (by kernel_rfl) (fun _ _ _ _ h => h) (by rfl) rfl (fun w hSw => val_conv rfl rfl (HCV.out w hSw.1)) (HS.out _ HH4.out) ?_
          try simp only [List.set_cons_zero, List.set_cons_succ]
          refine take_val 18 (.string s) rfl (by kernel_rfl) (by kernel_rfl) (by kernel_rfl) (fun _ _ _ _ h => h) (by rfl) rfl (fun w _ => by go_simp) (HS.out _ HH4.out) ?_
          try simp only [List.set_cons_zero, List.set_cons_succ]
          refine take_val 19 (.slice (some ⟨n5, 0, none⟩) s.size cp) rfl (by kernel_rfl) (by kernel_rfl) (by kernel_rfl) (fun _ _ _ _ h => h) (by rfl) rfl (fun w _ => by go_simp) (HS.out _ HH4.out) ?_
          try simp only [List.set_cons_zero, List.set_cons_succ]
          refine take_val 20 (.string s) rfl (by kernel_rfl) (by kernel_rfl) (by kernel_rfl) (fun _ _ _ _ h => h) (by rfl) rfl (fun w hSw => val_conv rfl rfl (HCV.out w hSw.1)) (HS.out _ HH4.out) ?_
          try simp only [List.set_cons_zero, List.set_cons_succ]
          refine take_val 21 (.bool true) rfl (by kernel_rfl) (by kernel_rfl) (by kernel_rfl) (fun _ _ _ _ h => h) (by rfl) rfl (fun w _ => by go_simp) (HS.out _ HH4.out) ?_
          try simp only [List.set_cons_zero, List.set_cons_succ]
          refine one_ready 13 (by kernel_rfl) rfl (by rfl) (fun K hK => ?_)
          go_simp
          refine (I1.out v3).mono ?_
          rintro e v5 ⟨rfl, hb⟩
          go_wp2_with fail
          refine hK.out _ _ (HS.out _ (Below.step HH4.out hb)) ?_
          clear hK K
          try simp only [Act.put, List.setIfInBounds_toArray, List.set_cons_zero, List.set_cons_succ]
          have HH6 := Lib.hid (Below.step HH4.out hb)
          clear hb HH4
          refine one_ready 16 (by kernel_rfl) rfl (by rfl) (fun K hK => ?_)
          go_simp
          refine (I1.out v5).mono ?_
          rintro e v7 ⟨rfl, hb⟩
          go_wp2_with fail
          refine hK.out _ _ (HS.out _ (Below.step HH6.out hb)) ?_
          clear hK K
          try simp only [Act.put, List.setIfInBounds_toArray, List.set_cons_zero, List.set_cons_succ]
          have HH8 := Lib.hid (Below.step HH6.out hb)
          clear hb HH6
          refine take_val 17 (.bool true) rfl (by kernel_rfl) (by kernel_rfl) (by kernel_rfl) (fun _ _ _ _ h => h) (by rfl) rfl (fun w _ => val_eqId rfl rfl rfl (E2.out w) (E3.out _ _ w)) (HS.out _ HH8.out) ?_
          try simp only [List.set_cons_zero, List.set_cons_succ]
          refine take_val 22 (.bool true) rfl (by kernel_rfl) (by kernel_rfl) (by kernel_rfl) (fun _ _ _ _ h => h) (by rfl) rfl (fun w _ => by go_simp) (HS.out _ HH8.out) ?_
          try simp only [List.set_cons_zero, List.set_cons_succ]
          refine take_val 23 (.bool true) rfl (by kernel_rfl) (by kernel_rfl) (by kernel_rfl) (fun _ _ _ _ h => h) (by rfl) rfl (fun w _ => by go_simp) (HS.out _ HH8.out) ?_
          try simp only [List.set_cons_zero, List.set_cons_succ]
          refine take_val 24 (.bool true) rfl (by kernel_rfl) (by kernel_rfl) (by kernel_rfl) (fun _ _ _ _ h => h) (by rfl) rfl (fun w _ => by go_simp) (HS.out _ HH8.out) ?_
          try simp only [List.set_cons_zero, List.set_cons_succ]
          refine wpAnyH_done (by kernel_rfl) ?_ _
          refine NoPanic.normal ?_
          go_wp2_with fail
          try go_ret
          exact ⟨rfl, Below.step HB.out HH8.out⟩
        · have hxy : hsum (strN s) ≠ hsum l := fun h => hq (hap h)
          have hst : ¬ s = strOf l := fun h => hq (by rw [h]; exact htl)
          have HCV := Lib.hid hcv
          clear hcv hap hq hts htl
          generalize strOf l = t at *
          generalize hsum (strN s) = x at *
          generalize hsum l = y at *
          obtain ⟨E1, E2, E3⟩ := eqId (be8 x) (be8 y) rfl rfl false (decide_eq_false fun h => hxy (be8_inj x1 x2 h))
          generalize bC (be8 x) = C1 at *
          generalize bC (be8 y) = C2 at *
          clear x1 x2
          have E2 := Lib.hid E2
          have E3 := Lib.hid E3
          clear E1
          have q1 : ((x : Int) == (y : Int)) = false := by rw [beq_eq_false_iff_ne]; omega
          have q3 : ¬ x = y := hxy
          have q5 : ¬ s.toList = t.toList := fun h => hst (by
            rw [Lib.toList_data, Lib.toList_data] at h
            exact Go.WideShapes.bytes_inj h)
          have q4 : (s.toList == t.toList) = false := by rw [beq_eq_false_iff_ne]; exact q5
          refine take_val 0 (.string s) rfl (by kernel_rfl) (by kernel_rfl) (by kernel_rfl) (fun _ _ _ _ h => h) (by rfl) rfl (fun w _ => by go_simp) (HS.out _ HH0.out) ?_
          try simp only [List.set_cons_zero, List.set_cons_succ]
          refine take_val 2 (.slice (some ⟨n5, 0, none⟩) s.size cp) rfl (by kernel_rfl) (by kernel_rfl) (by kernel_rfl) (fun _ _ _ _ h => h) (by rfl) rfl (fun w _ => by go_simp) (HS.out _ HH0.out) ?_
          try simp only [List.set_cons_zero, List.set_cons_succ]
          refine take_val 3 (.string t) rfl (by kernel_rfl) (by kernel_rfl) (by kernel_rfl) (fun _ _ _ _ h => h) (by rfl) rfl (fun w hSw => val_conv rfl rfl (HCV.out w hSw.1)) (HS.out _ HH0.out) ?_
          try simp only [List.set_cons_zero, List.set_cons_succ]
          refine take_val 6 (.string s) rfl (by kernel_rfl) (by kernel_rfl) (by kernel_rfl) (fun _ _ _ _ h => h) (by rfl) rfl (fun w _ => by go_simp) (HS.out _ HH0.out) ?_
          try simp only [List.set_cons_zero, List.set_cons_succ]
          refine take_val 7 (.slice (some ⟨n5, 0, none⟩) s.size cp) rfl (by kernel_rfl) (by kernel_rfl) (by kernel_rfl) (fun _ _ _ _ h => h) (by rfl) rfl (fun w _ => by go_simp) (HS.out _ HH0.out) ?_
          try simp only [List.set_cons_zero, List.set_cons_succ]
          refine take_val 8 (.string t) rfl (by kernel_rfl) (by kernel_rfl) (by kernel_rfl) (fun _ _ _ _ h => h) (by rfl) rfl (fun w hSw => val_conv rfl rfl (HCV.out w hSw.1)) (HS.out _ HH0.out) ?_
          try simp only [List.set_cons_zero, List.set_cons_succ]
          refine take_val 9 (.bool false) rfl (by kernel_rfl) (by kernel_rfl) (by kernel_rfl) (fun _ _ _ _ h => h) (by rfl) rfl (fun w _ => by go_simp) (HS.out _ HH0.out) ?_
          try simp only [List.set_cons_zero, List.set_cons_succ]
          refine one_ready 1 (by kernel_rfl) rfl (by rfl) (fun K hK => ?_)
          go_simp
          refine (S1.out v0).mono ?_
          rintro e v1 ⟨rfl, hb⟩
          go_wp2_with fail
          refine hK.out _ _ (HS.out _ (Below.step HH0.out hb)) ?_
          clear hK K
          try simp only [Act.put, List.setIfInBounds_toArray, List.set_cons_zero, List.set_cons_succ]
          have HH2 := Lib.hid (Below.step HH0.out hb)
          clear hb HH0
          refine one_ready 4 (by kernel_rfl) rfl (by rfl) (fun K hK => ?_)
          go_simp
          refine (S2.out v1).mono ?_
          rintro e v3 ⟨rfl, hb⟩
          go_wp2_with fail
          refine hK.out _ _ (HS.out _ (Below.step HH2.out hb)) ?_
          clear hK K
          try simp only [Act.put, List.setIfInBounds_toArray, List.set_cons_zero, List.set_cons_succ]
          have HH4 := Lib.hid (Below.step HH2.out hb)
          clear hb HH2
          refine take_val 5 (.bool false) rfl (by kernel_rfl) (by kernel_rfl) (by kernel_rfl) (fun _ _ _ _ h => h) (by rfl) rfl (fun w _ => by go_simp) (HS.out _ HH4.out) ?_
          try simp only [List.set_cons_zero, List.set_cons_succ]
          refine take_val 10 (.bool true) rfl (by kernel_rfl) (by kernel_rfl) (by kernel_rfl) (fun _ _ _ _ h => h) (by rfl) rfl (fun w _ => by go_simp) (HS.out _ HH4.out) ?_
          try simp only [List.set_cons_zero, List.set_cons_succ]
          refine take_val 11 (.bool true) rfl (by kernel_rfl) (by kernel_rfl) (by kernel_rfl) (fun _ _ _ _ h => h) (by rfl) rfl (fun w _ => by go_simp) (HS.out _ HH4.out) ?_
          try simp only [List.set_cons_zero, List.set_cons_succ]
          refine take_val 12 (.string s) rfl (by kernel_rfl) (by kernel_rfl) (by kernel_rfl) (fun _ _ _ _ h => h) (by rfl) rfl (fun w _ => by go_simp) (HS.out _ HH4.out) ?_
          try simp only [List.set_cons_zero, List.set_cons_succ]
          refine take_val 14 (.slice (some ⟨n5, 0, none⟩) s.size cp) rfl (by kernel_rfl) (by kernel_rfl) (by kernel_rfl) (fun _ _ _ _ h => h) (by rfl) rfl (fun w _ => by go_simp) (HS.out _ HH4.out) ?_
          try simp only [List.set_cons_zero, List.set_cons_succ]
          refine take_val 15 (.string t) rfl (by kernel_rfl) (by kernel_rfl) (by kernel_rfl) (fun _ _ _ _ h => h) (by rfl) rfl (fun w hSw => val_conv rfl rfl (HCV.out w hSw.1)) (HS.out _ HH4.out) ?_
          try simp only [List.set_cons_zero, List.set_cons_succ]
          refine take_val 18 (.string s) rfl (by kernel_rfl) (by kernel_rfl) (by kernel_rfl) (fun _ _ _ _ h => h) (by rfl) rfl (fun w _ => by go_simp) (HS.out _ HH4.out) ?_
          try simp only [List.set_cons_zero, List.set_cons_succ]
          refine take_val 19 (.slice (some ⟨n5, 0, none⟩) s.size cp) rfl (by kernel_rfl) (by kernel_rfl) (by kernel_rfl) (fun _ _ _ _ h => h) (by rfl) rfl (fun w _ => by go_simp) (HS.out _ HH4.out) ?_
          try simp only [List.set_cons_zero, List.set_cons_succ]
          refine take_val 20 (.string t) rfl (by kernel_rfl) (by kernel_rfl) (by kernel_rfl) (fun _ _ _ _ h => h) (by rfl) rfl (fun w hSw => val_conv rfl rfl (HCV.out w hSw.1)) (HS.out _ HH4.out) ?_
          try simp only [List.set_cons_zero, List.set_cons_succ]
          refine take_val 21 (.bool false) rfl (by kernel_rfl) (by kernel_rfl) (by kernel_rfl) (fun _ _ _ _ h => h) (by rfl) rfl (fun w _ => by go_simp) (HS.out _ HH4.out) ?_
          try simp only [List.set_cons_zero, List.set_cons_succ]
          refine one_ready 13 (by kernel_rfl) rfl (by rfl) (fun K hK => ?_)
          go_simp
          refine (I1.out v3).mono ?_
          rintro e v5 ⟨rfl, hb⟩
          go_wp2_with fail
          refine hK.out _ _ (HS.out _ (Below.step HH4.out hb)) ?_
          clear hK K
          try simp only [Act.put, List.setIfInBounds_toArray, List.set_cons_zero, List.set_cons_succ]
          have HH6 := Lib.hid (Below.step HH4.out hb)
          clear hb HH4
          refine one_ready 16 (by kernel_rfl) rfl (by rfl) (fun K hK => ?_)
          go_simp
          refine (I2.out v5).mono ?_
          rintro e v7 ⟨rfl, hb⟩
          go_wp2_with fail
          refine hK.out _ _ (HS.out _ (Below.step HH6.out hb)) ?_
          clear hK K
          try simp only [Act.put, List.setIfInBounds_toArray, List.set_cons_zero, List.set_cons_succ]
          have HH8 := Lib.hid (Below.step HH6.out hb)
          clear hb HH6
          refine take_val 17 (.bool false) rfl (by kernel_rfl) (by kernel_rfl) (by kernel_rfl) (fun _ _ _ _ h => h) (by rfl) rfl (fun w _ => val_eqId rfl rfl rfl (E2.out w) (E3.out _ _ w)) (HS.out _ HH8.out) ?_
          try simp only [List.set_cons_zero, List.set_cons_succ]
          refine take_val 22 (.bool true) rfl (by kernel_rfl) (by kernel_rfl) (by kernel_rfl) (fun _ _ _ _ h => h) (by rfl) rfl (fun w _ => by go_simp) (HS.out _ HH8.out) ?_
          try simp only [List.set_cons_zero, List.set_cons_succ]
          refine take_val 23 (.bool true) rfl (by kernel_rfl) (by kernel_rfl) (by kernel_rfl) (fun _ _ _ _ h => h) (by rfl) rfl (fun w _ => by go_simp) (HS.out _ HH8.out) ?_
          try simp only [List.set_cons_zero, List.set_cons_succ]
          refine take_val 24 (.bool true) rfl (by kernel_rfl) (by kernel_rfl) (by kernel_rfl) (fun _ _ _ _ h => h) (by rfl) rfl (fun w _ => by go_simp) (HS.out _ HH8.out) ?_
          try simp only [List.set_cons_zero, List.set_cons_succ]
          refine wpAnyH_done (by kernel_rfl) ?_ _
          refine NoPanic.normal ?_
          go_wp2_with fail
          try go_ret
          exact ⟨rfl, Below.step HB.out HH8.out⟩
end Go.Proofs.Ytcocdlhjfbpkfaa
