/- The walk of lz.Pack. -/
import Derived.Test.YtaipojclfpgaaaaLzW
import Derived.Test.YtaipojclfpgaaaaBytesOwn
namespace Go.Proofs.Ytaipojclfpgaaaa
open Go.RowKit Plain
theorem info_u8 : (Try.prog.info? 5).map (fun i => (i.zero, i.size, i.bytes)) = some (some (.int .u8 0), 1, 1) := by kernel_rfl
set_option maxRecDepth 100000 in
set_option maxHeartbeats 1000000 in
theorem pack_any (a : Option Addr) (cap : Nat) (l : List Tok) (w : World) (h : SAt 3 tC w a l) (hl : l.length ≤ 9223372036854775807) (hlt : ∀ t ∈ l, t.1 < 256) :
    Calls Try.prog 31 #[.slice a l.length cap] w fun e w' => e = .returned (.tuple #[.string (strOf (if lchk l = 0 then pk l else [])), .int .i64 (lchk l : Nat)]) ∧ Below w.heap.size w w' := by
  obtain ⟨i0, hi0, hz0, hz1, hz2⟩ := info_parts info_u8
  have HC := Lib.hid fun wx (hx : SAt 3 tC wx a l) => check_any a cap l wx hx hl
  have HS := Lib.hid h
  have HLT := Lib.hid hlt
  clear h hlt
  by_cases hk : lchk l = 0
  · have HK := Lib.hid hk
    obtain ⟨hk1, hk2⟩ := lchk_ok.1 hk
    have HFO := Lib.hid hk2
    rw [hk] at HC
    rw [if_pos hk, hk]
    clear hk hk2
    go_enter Try.func31, Try.ntmps31
    go_wp2_with fail
    refine (HC.out _ HS.out).mono ?_
    rintro e w1 ⟨rfl, hb1⟩
    go_wp2_with fail
    have HB1 := Lib.hid hb1
    clear hb1
    go_loopw [5, 15] (fun ov iv wr => ∃ i : Nat, i ≤ l.length ∧ iv = .int .i64 (i : Int) ∧ Below w.heap.size w wr ∧ wr.ownsRow w.heap.size 5 1 ov (pk (l.take i)).length ((pk (l.take i)).map bV)) (fun _ iv _ => l.length - (intOf iv).toNat)
    case atStart => exact ⟨0, by omega, rfl, HB1.out, World.ownsRow_nil _ _ _ _⟩
    case round =>
      obtain ⟨i, hi, rfl, hbr, hown⟩ := hrel
      have HBR := Lib.hid hbr
      have HOWN := Lib.hid hown
      clear HB1 hbr hown
      have hw0 : w.heap.size ≤ wr.heap.size := HBR.out.size
      by_cases hlt : i < l.length
      · have m1 : (i : Int) < (l.length : Int) := by omega
        obtain ⟨g, off, rfl, hg, hr⟩ := (HS.out.below HBR.out) i hlt
        have HST : Hid (pk (l.take (i + 1)) = pk (l.take i) ++ pk1 l[i]) := by show _ = _; rw [List.take_succ_eq_append_getElem hlt, pk_snoc]
        have HLEN : Hid ((pk (l.take i)).length ≤ 12288) := by show _ ≤ _; have := pk_length (l.take i); rw [List.length_take] at this; omega
        have hf := HFO.out _ (List.getElem_mem hlt)
        have hlt8 := HLT.out _ (List.getElem_mem hlt)
        generalize l[i] = t at *
        obtain ⟨ta, tb, tc⟩ := t
        have r0 : wr.cell? ⟨g, off + i * 3, none⟩ = some (.int .u8 (ta : Int)) := hr 0 _ rfl
        have r1 : wr.cell? ⟨g, off + i * 3 + 1, none⟩ = some (.int .i64 tb) := hr 1 _ rfl
        have r2 : wr.cell? ⟨g, off + i * 3 + 2, none⟩ = some (.int .i64 tc) := hr 2 _ rfl
        have HBA := Lib.hid (Below.alloc HBR.out HBR.out.size (.cells #[.int .u8 (ta : Int), .int .i64 tb, .int .i64 tc] 60))
        generalize pk (l.take i) = acc at *
        clear hr hg
        unfold formed at hf
        simp only at hf
        by_cases h0 : tb = 0
        · have f0 : (tb == 0) = true := beq_iff_eq.2 h0
          have HP : Hid (pk1 (ta, tb, tc) = [0, ta]) := by show _ = _; simp [pk1, h0]
          clear hf h0
          have D1 := Lib.hid (cells_new_at (wr.alloc (.cells #[.int .u8 (ta : Int), .int .i64 tb, .int .i64 tc] 60)) (wr.heap.size + 1) (by simp) #[.int .u8 0, .int .u8 (ta : Int)] 5 [.int .u8 0, .int .u8 (ta : Int)] rfl)
          have D2 : Hid (∀ u ∈ ([.int .u8 0, .int .u8 (ta : Int)] : List Value), u.oneCell' = true) := by intro u hu; simp only [List.mem_cons, List.not_mem_nil, or_false] at hu; rcases hu with rfl | rfl <;> rfl
          have D3 : Hid (acc.length + 2 ≤ maxLen) := by show _ ≤ _; have := HLEN.out; unfold maxLen; omega
          have D4 : Hid ((acc.length + 2) * 1 ≤ 140737488355328) := by show _ ≤ _; have := HLEN.out; omega
          have D5 : Hid (w.heap.size ≤ ((wr.alloc (.cells #[.int .u8 (ta : Int), .int .i64 tb, .int .i64 tc] 60)).alloc (.cells #[.int .u8 0, .int .u8 (ta : Int)] 5)).heap.size) := by show _ ≤ _; simp; omega
          go_wp2_with (at_builtin; refine wpList_append_own _ rfl _ _ 87 rfl w.heap.size 5 i0 (.int .u8 0) 1 1 Try.underlying87 hi0 hz0 hz1 hz2 rfl (by decide) _ _ _ rfl ((HOWN.out.alloc _).alloc _) ⟨wr.heap.size + 1, 0, none⟩ 2 2 [.int .u8 0, .int .u8 (ta : Int)] rfl rfl D1.out D2.out D3.out D4.out D5.out ?_)
          intro v' w1 hown' hgrow _
          have BW := Lib.hid (below_own (HBA.out.alloc HBA.out.size _) hgrow (by simp; omega) ((HOWN.out.alloc _).alloc _) (Nat.le_refl _))
          have OW : Hid (w1.ownsRow w.heap.size 5 1 v' (pk (l.take (i + 1))).length ((pk (l.take (i + 1))).map bV)) := by
            show w1.ownsRow _ _ _ _ _ _
            rw [HST.out, HP.out, List.length_append, List.map_append]
            exact hown'
          clear hown' hgrow
          go_wp2_with fail
          go_roundw
          case rel => exact ⟨i + 1, by omega, by go_num, BW.out, OW.out⟩
          case measure => simp [intOf]; omega
        · rw [if_neg h0] at hf
          obtain ⟨c0, c1, c2, c3, c4⟩ := of_decide_eq_true hf
          obtain ⟨nb, rfl⟩ := Int.eq_ofNat_of_zero_le (show 0 ≤ tb by omega)
          have HP : Hid ((pk1 (ta, (nb : Int), tc)).map bV = [.int .u8 (nb : Int), .int .u8 (tc % 256), .int .u8 (tc / 256)]) := by
            show _ = _
            unfold pk1
            rw [if_neg h0]
            simp only [List.map_cons, List.map_nil, bV, List.cons.injEq, Value.int.injEq, true_and, and_true]
            omega
          have HP2 : Hid ((pk1 (ta, (nb : Int), tc)).length = 3) := by show _ = _; unfold pk1; rw [if_neg h0]; rfl
          subst c0
          have f0 : ((nb : Int) == 0) = false := beq_eq_false_iff_ne.2 h0
          clear hf h0
          have D1 := Lib.hid (cells_new_at (wr.alloc (.cells #[.int .u8 0, .int .i64 (nb : Int), .int .i64 tc] 60)) (wr.heap.size + 1) (by simp) #[.int .u8 (nb : Int), .int .u8 (tc % 256), .int .u8 (tc / 256)] 5 [.int .u8 (nb : Int), .int .u8 (tc % 256), .int .u8 (tc / 256)] rfl)
          have D2 : Hid (∀ u ∈ ([.int .u8 (nb : Int), .int .u8 (tc % 256), .int .u8 (tc / 256)] : List Value), u.oneCell' = true) := by intro u hu; simp only [List.mem_cons, List.not_mem_nil, or_false] at hu; rcases hu with rfl | rfl | rfl <;> rfl
          have D3 : Hid (acc.length + 3 ≤ maxLen) := by show _ ≤ _; have := HLEN.out; unfold maxLen; omega
          have D4 : Hid ((acc.length + 3) * 1 ≤ 140737488355328) := by show _ ≤ _; have := HLEN.out; omega
          have D5 : Hid (w.heap.size ≤ ((wr.alloc (.cells #[.int .u8 0, .int .i64 (nb : Int), .int .i64 tc] 60)).alloc (.cells #[.int .u8 (nb : Int), .int .u8 (tc % 256), .int .u8 (tc / 256)] 5)).heap.size) := by show _ ≤ _; simp; omega
          go_wp2_with (at_builtin; refine wpList_append_own _ rfl _ _ 87 rfl w.heap.size 5 i0 (.int .u8 0) 1 1 Try.underlying87 hi0 hz0 hz1 hz2 rfl (by decide) _ _ _ rfl ((HOWN.out.alloc _).alloc _) ⟨wr.heap.size + 1, 0, none⟩ 3 3 [.int .u8 (nb : Int), .int .u8 (tc % 256), .int .u8 (tc / 256)] rfl rfl D1.out D2.out D3.out D4.out D5.out ?_)
          intro v' w1 hown' hgrow _
          have BW := Lib.hid (below_own (HBA.out.alloc HBA.out.size _) hgrow (by simp; omega) ((HOWN.out.alloc _).alloc _) (Nat.le_refl _))
          have OW : Hid (w1.ownsRow w.heap.size 5 1 v' (pk (l.take (i + 1))).length ((pk (l.take (i + 1))).map bV)) := by
            show w1.ownsRow _ _ _ _ _ _
            rw [HST.out, List.length_append, List.map_append, HP.out, HP2.out]
            exact hown'
          clear hown' hgrow
          go_wp2_with fail
          go_roundw
          case rel => exact ⟨i + 1, by omega, by go_num, BW.out, OW.out⟩
          case measure => simp [intOf]; omega
      · have m1 : ¬ (i : Int) < (l.length : Int) := by omega
        have hA : l.take i = l := List.take_of_length_le (by omega)
        rw [hA] at HOWN
        have hcv := run_string_own (P := Try.prog) wr 87 5 9 Try.underlying87 Try.underlying5 Try.underlying9 (pk_lt l HLT.out) HOWN.out
        go_wp2_with fail
        go_ret2
        exact ⟨rfl, HBR.out⟩
  · have HK : Hid (((lchk l : Nat) : Int) ≠ 0) := by show _ ≠ _; omega
    have f1 : (((lchk l : Nat) : Int) != 0) = true := by simpa using HK.out
    rw [if_neg hk]
    generalize lchk l = c at *
    go_enter Try.func31, Try.ntmps31
    go_wp2_with fail
    refine (HC.out _ HS.out).mono ?_
    rintro e w1 ⟨rfl, hb1⟩
    go_wp2_with fail
    go_ret2
    exact ⟨rfl, hb1⟩
end Go.Proofs.Ytaipojclfpgaaaa
