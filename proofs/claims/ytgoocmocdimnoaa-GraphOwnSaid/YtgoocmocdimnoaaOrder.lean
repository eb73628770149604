/- The walk of graph.Order. -/
import Derived.Test.YtgoocmocdimnoaaClosure
import Derived.Deep.LoopGhost
import Derived.WalkMore
namespace Go.Proofs.Ytgoocmocdimnoaa
open Go.RowKit Plain
namespace Plain
theorem ord_done {ks : List (List Int)} {f : Nat} {d : List Bool} {out : List Nat} (h : ¬ out.length < ks.length) : ord ks f d out = some out := by
  cases f with
  | zero => rw [ord, if_neg h]
  | succ f => rw [ord, if_neg h]
theorem ord_none {ks : List (List Int)} {f : Nat} {d : List Bool} {out : List Nat} (h : out.length < ks.length) (h1 : first ks d ks.length 0 = none) : ord ks (f + 1) d out = none := by
  rw [ord, if_pos h, h1]
theorem ord_some {ks : List (List Int)} {f i : Nat} {d : List Bool} {out : List Nat} (h : out.length < ks.length) (h1 : first ks d ks.length 0 = some i) : ord ks (f + 1) d out = ord ks f (d.set i true) (out ++ [i]) := by
  rw [ord, if_pos h, h1]
theorem first_skip {ks : List (List Int)} {d : List Bool} {n i : Nat} (h : ready ks d i = false) : first ks d (n + 1) i = first ks d n (i + 1) := by rw [first, if_neg (by simp [h])]
theorem first_hit {ks : List (List Int)} {d : List Bool} {n i : Nat} (h : ready ks d i = true) : first ks d (n + 1) i = some i := by rw [first, if_pos h]
end Plain
theorem own_form {w : World} {base : Nat} {t : TypeId} {n k : Nat} {v : Value} {xs : List Value} (h : w.ownsRow base t k v n xs) : ∃ a c, v = .slice a n c := by
  rcases h.2 with ⟨rfl, rfl⟩ | ⟨g, cap, cur, rfl, _⟩
  · exact ⟨none, 0, rfl⟩
  · exact ⟨_, cap, rfl⟩
def kC (l : List Nat) : List Value := l.map fun n : Nat => Value.int .i64 (n : Int)
/-- what Order leaves -/
def OrdEnd (w0 : World) (ks : List (List Int)) (e : Ending) (w : World) : Prop := Below w0.heap.size w0 w ∧
  ((¬ Gok ks ∧ ∃ c : Nat, c ≠ 0 ∧ c ≤ 2 ∧ e = .returned (.tuple #[.slice none 0 0, .int .i64 (c : Int)])) ∨
   (Gok ks ∧ ord ks ks.length (List.replicate ks.length false) [] = none ∧ e = .returned (.tuple #[.slice none 0 0, .int .i64 4])) ∨
   (Gok ks ∧ ∃ a l c, ord ks ks.length (List.replicate ks.length false) [] = some l ∧ e = .returned (.tuple #[.slice a l.length c, .int .i64 0]) ∧ w.ownsRow w0.heap.size 3 1 (.slice a l.length c) l.length (kC l)))
set_option maxRecDepth 100000 in
set_option maxHeartbeats 2000000 in
theorem order_any (a : Option Addr) (cap : Nat) (rows : List GRow) (w : World) (h : GAt w a rows) (hl : rows.length ≤ 9223372036854775807) :
    Calls Try.prog 16 #[.slice a rows.length cap] w (OrdEnd w (gK rows)) := by
  obtain ⟨i0, hi0, hz0, hz1, hz2⟩ := info_parts info_int
  have HG := Lib.hid h
  have HCK := Lib.hid fun wx (hx : GAt wx a rows) => gcheck_any a cap rows wx hx hl
  have HLN := Lib.hid (gK_length rows)
  clear h
  go_enter Try.func16, Try.ntmps16
  go_wp2_with fail
  go_step3
  go_wp2_with fail
  refine (HCK.out _ HG.out).mono ?_
  rintro e w1 ⟨c, rfl, hc2, hc0, hb1⟩
  have HB1 := Lib.hid hb1
  have HC0 := Lib.hid hc0
  clear hb1 hc0
  by_cases hc : c = 0
  · have HOK := Lib.hid (HC0.out.1 hc)
    subst hc
    have hn200 : rows.length ≤ 200 := by have := HOK.out.1; rwa [HLN.out] at this
    have HMK := Lib.hid (run_make_bools rows.length (by omega))
    have hmk := HMK.out
    go_wp2_with fail
    go_step3
    go_wp2_with fail
    clear hmk
    have HB2 := Lib.hid (HB1.out.alloc HB1.out.size (.cells (oC (List.replicate rows.length false)) 4))
    have HRW := Lib.hid (heap_alloc_new w1 (.cells (oC (List.replicate rows.length false)) 4))
    have hwB : w.heap.size ≤ w1.heap.size := HB1.out.size
    obtain ⟨R, hR⟩ : ∃ R, R = ord (gK rows) rows.length (List.replicate rows.length false) [] := ⟨_, rfl⟩
    have HR := Lib.hid hR
    have HFIN : Hid (ord (gK rows) (gK rows).length (List.replicate (gK rows).length false) [] = R) := by show _ = _; rw [HLN.out]; exact hR.symm
    clear hR
    generalize w1.alloc (.cells (oC (List.replicate rows.length false)) 4) = wa at *
    generalize w1.heap.size = B at *
    go_loopg [6] rows.length (fun k ov wr => ∃ (d : List Bool) (out : List Nat) (oa : Option Addr) (oc : Nat), ov = .slice oa out.length oc ∧ out.length + k = rows.length ∧ wr.ownsRow w.heap.size 3 1 (.slice oa out.length oc) out.length (kC out) ∧ Below w.heap.size w wr ∧ wr.heap[B]? = some (.cells (oC d) 4 (0, 0)) ∧ d.length = rows.length ∧ ord (gK rows) k d out = R)
    case atStart => exact ⟨_, [], none, 0, rfl, by simp, World.ownsRow_nil _ _ _ _, HB2.out, HRW.out, by simp, HR.out.symm⟩
    case round =>
      obtain ⟨d, out, oa, oc, rfl, hk, hown, hbr, hrow, hdl, hord⟩ := hrel
      have HOWN := Lib.hid hown
      have HBR := Lib.hid hbr
      have HROW := Lib.hid hrow
      have HORD := Lib.hid hord
      clear HB2 HRW HR hown hbr hrow hord
      by_cases hlt : out.length < rows.length
      · have m1 : (out.length : Int) < (rows.length : Int) := by omega
        obtain ⟨k, rfl⟩ : ∃ k, gk = k + 1 := ⟨gk - 1, by omega⟩
        go_wp2_with fail
        go_step3
        go_wp2_with fail
        go_step3
        go_wp2_with fail
        obtain ⟨wo, rfl⟩ : ∃ wo : World, wo = wr := ⟨_, rfl⟩
        go_loopg [6, 26] rows.length (fun m ov iv wr => ∃ i : Nat, ov = .slice oa out.length oc ∧ iv = .int .i64 (i : Int) ∧ i + m = rows.length ∧ wr = wo ∧ first (gK rows) d m i = first (gK rows) d (gK rows).length 0)
        case atStart => exact ⟨0, rfl, rfl, by omega, rfl, by rw [HLN.out]⟩
        case round =>
          obtain ⟨i, rfl, rfl, him, hww, hfi⟩ := hrel
          subst hww
          have HFI := Lib.hid hfi
          clear hfi
          by_cases hil : i < rows.length
          · have m2 : (i : Int) < (rows.length : Int) := by omega
            obtain ⟨m, rfl⟩ : ∃ m, gk = m + 1 := ⟨gk - 1, by omega⟩
            obtain ⟨g2, off2, rfl, hg2, hr2, _, _⟩ := (HG.out.below HBR.out).row i hil
            have HKD := Lib.hid (gK_getD rows i hil)
            have HSR0 := Lib.hid ((HG.out.2 _ (List.getElem_mem hil)).1.below HBR.out)
            have hrl := (HOK.out.row i)
            rw [HKD.out] at hrl
            obtain ⟨hrl1, hrl2⟩ := hrl
            have HRL := Lib.hid hrl2
            generalize rows[i] = r at *
            obtain ⟨ra, rc, row⟩ := r
            have hrow64 : row.length ≤ 64 := hrl1
            have hr3 : wr.cell? ⟨g2, off2 + i, none⟩ = some (.slice ra row.length rc) := hr2
            have hdc := cell_of_row wr B i _ _ _ HROW.out
            rw [oC_get d i (by omega)] at hdc
            clear hr2 hg2 hrl1 hrl2
            cases hq : d.getD i false with
            | true =>
              rw [hq] at hdc
              have HSK : Hid (first (gK rows) d (m + 1) i = first (gK rows) d m (i + 1)) := first_skip (by unfold ready; rw [hq]; rfl)
              clear hq
              go_wp2_with fail
              go_roundg m
              case measure => omega
              case rel => exact ⟨i + 1, rfl, by go_num, by omega, rfl, by rw [← HSK.out]; exact HFI.out⟩
            | false =>
              rw [hq] at hdc
              have HDI := Lib.hid hq
              clear hq
              go_wp2_with fail
              obtain ⟨wo, rfl⟩ : ∃ wo : World, wo = wr := ⟨_, rfl⟩
              go_loopg [37] row.length (fun q jv wr => ∃ j : Nat, jv = .int .i64 (j : Int) ∧ j + q = row.length ∧ wr = wo ∧ (row.take j).all (fun k => d.getD k.toNat false) = true)
              case atStart => exact ⟨0, rfl, by omega, rfl, by simp⟩
              case round =>
                obtain ⟨j, rfl, hjq, hww, hall⟩ := hrel
                subst hww
                have HALL := Lib.hid hall
                clear hall
                by_cases hjl : j < row.length
                · have m3 : (j : Int) < (row.length : Int) := by omega
                  obtain ⟨q, rfl⟩ : ∃ q, gk = q + 1 := ⟨gk - 1, by omega⟩
                  obtain ⟨g3, off3, rfl, hg3, hr4⟩ := HSR0.out.int j hjl
                  have hkb := HRL.out _ (List.getElem_mem hjl)
                  have HKM : Hid (row[j] ∈ row) := List.getElem_mem hjl
                  have HSQ : Hid (row.take (j + 1) = row.take j ++ [row[j]]) := List.take_succ_eq_append_getElem hjl
                  generalize row[j] = kk at *
                  obtain ⟨hk0, hk1⟩ := hkb
                  rw [HLN.out] at hk1
                  obtain ⟨kn, rfl⟩ := Int.eq_ofNat_of_zero_le hk0
                  have hkc := cell_of_row wr B kn _ _ _ HROW.out
                  rw [oC_get d kn (by omega)] at hkc
                  have m4 : (kn : Int) < (rows.length : Int) := by omega
                  clear hg3
                  cases hq : d.getD kn false with
                  | true =>
                    rw [hq] at hkc
                    have HA : Hid ((row.take (j + 1)).all (fun k => d.getD k.toNat false) = true) := by show _ = _; rw [HSQ.out, List.all_append, HALL.out]; simp only [List.all_cons, List.all_nil, Int.toNat_natCast, hq]; rfl
                    clear hq
                    go_wp2_with fail
                    go_roundg q
                    case measure => omega
                    case rel => exact ⟨j + 1, by go_num, by omega, rfl, HA.out⟩
                  | false =>
                    rw [hq] at hkc
                    have HSK : Hid (first (gK rows) d (m + 1) i = first (gK rows) d m (i + 1)) := first_skip (by
                      unfold ready
                      rw [HKD.out, HDI.out]
                      apply Bool.and_eq_false_iff.2
                      right
                      rw [List.all_eq_false]
                      exact ⟨_, HKM.out, by rw [Int.toNat_natCast, hq]; decide⟩)
                    clear hq
                    go_wp2_with fail
                    go_roundg m
                    case measure => omega
                    case rel => exact ⟨i + 1, rfl, by go_num, by omega, rfl, by rw [← HSK.out]; exact HFI.out⟩
                · have m3 : ¬ (j : Int) < (row.length : Int) := by omega
                  have HRD : Hid (ready (gK rows) d i = true) := by
                    have h := HALL.out
                    rw [List.take_of_length_le (by omega)] at h
                    show _ = _
                    unfold ready
                    rw [HKD.out, HDI.out, h]
                    rfl
                  have HF1 : Hid (first (gK rows) d (gK rows).length 0 = some i) := by show _ = _; rw [← HFI.out]; exact first_hit HRD.out
                  have HO1 : Hid (ord (gK rows) k (d.set i true) (out ++ [i]) = R) := by show _ = _; rw [← HORD.out]; exact (ord_some (by rw [HLN.out]; exact hlt) HF1.out).symm
                  have hfi := frozen_of_row wr B i _ _ HROW.out
                  have HROW2 := Lib.hid (heap_setCell_same wr B i _ 4 (.bool true) HROW.out)
                  rw [oC_set] at HROW2
                  have HOW2 := Lib.hid (own_store HOWN.out HROW.out (by decide) i (.bool true))
                  have HBW2 := Lib.hid (HBR.out.setCell (p := ⟨B, i, none⟩) hwB (.bool true))
                  have D1 := Lib.hid (cells_new_at (wr.setCell ⟨B, i, none⟩ (.bool true)) (wr.heap.size) (by simp) #[.int .i64 (i : Int)] 3 [.int .i64 (i : Int)] rfl)
                  have D2 : Hid (∀ u ∈ ([.int .i64 (i : Int)] : List Value), u.oneCell' = true) := by intro u hu; simp only [List.mem_cons, List.not_mem_nil, or_false] at hu; rcases hu with rfl; rfl
                  have D3 : Hid (out.length + 1 ≤ maxLen) := by show _ ≤ _; unfold maxLen; omega
                  have D4 : Hid ((out.length + 1) * 8 ≤ 140737488355328) := by show _ ≤ _; omega
                  have D5 : Hid (w.heap.size ≤ ((wr.setCell ⟨B, i, none⟩ (.bool true)).alloc (.cells #[.int .i64 (i : Int)] 3)).heap.size) := by have := HBW2.out.size; show _ ≤ _; simp; simp at this; omega
                  clear hrow64
                  go_wp2_with (at_builtin; refine wpList_append_own _ rfl _ _ 23 rfl w.heap.size 3 i0 (.int .i64 0) 1 8 Try.underlying23 hi0 hz0 hz1 hz2 rfl (by decide) _ _ _ rfl (HOW2.out.alloc _) ⟨wr.heap.size, 0, none⟩ 1 1 [.int .i64 (i : Int)] rfl rfl D1.out D2.out D3.out D4.out D5.out ?_)
                  intro v' w2 hown' hgrow _
                  have BW := Lib.hid (below_own (HBW2.out.alloc HBW2.out.size _) hgrow D5.out (HOW2.out.alloc _) (Nat.le_refl _))
                  obtain ⟨oa3, oc3, rfl⟩ := own_form hown'
                  have OW : Hid (w2.ownsRow w.heap.size 3 1 (.slice oa3 (out ++ [i]).length oc3) (out ++ [i]).length (kC (out ++ [i]))) := by
                    show w2.ownsRow _ _ _ _ _ _
                    unfold kC
                    rw [List.length_append, List.map_append]
                    exact hown'
                  have HR1 := Lib.hid ((Below.heap_alloc (wr.setCell ⟨B, i, none⟩ (.bool true)) (.cells #[.int .i64 (i : Int)] 3) B (lt_of_block HROW2.out)).trans HROW2.out)
                  have HR2 := Lib.hid ((hgrow.block B (lt_of_block HR1.out) (own_neq (HOW2.out.alloc _) HR1.out (by decide))).trans HR1.out)
                  clear hown' hgrow
                  go_wp2_with fail
                  rw [Exit.noGoto_exit]
                  go_step
                  go_wp2_with fail
                  go_roundg k
                  case measure => omega
                  case rel => exact ⟨d.set i true, out ++ [i], oa3, oc3, by rw [List.length_append]; rfl, by simp; omega, OW.out, BW.out, HR2.out, by simpa using hdl, HO1.out⟩
          · have m2 : ¬ (i : Int) < (rows.length : Int) := by omega
            obtain rfl : gk = 0 := by omega
            have HE : Hid (R = none) := by show _ = _; rw [← HORD.out]; exact ord_none (by rw [HLN.out]; exact hlt) HFI.out.symm
            go_wp2_with fail
            first | go_ret2 | (rw [Exit.noGoto_ret]; go_ret2)
            exact ⟨HBR.out, .inr (.inl ⟨HOK.out, by rw [HFIN.out]; exact HE.out, rfl⟩)⟩
      · have m1 : ¬ (out.length : Int) < (rows.length : Int) := by omega
        have HE : Hid (R = some out) := by show _ = _; rw [← HORD.out]; exact ord_done (by rw [HLN.out]; exact hlt)
        go_wp2_with fail
        go_ret2
        exact ⟨HBR.out, .inr (.inr ⟨HOK.out, oa, out, oc, by rw [HFIN.out]; exact HE.out, rfl, HOWN.out⟩)⟩
  · have f1 : (((c : Nat) : Int) != 0) = true := by simpa using hc
    have HR : Hid (¬ Gok (gK rows)) := fun h => hc (HC0.out.2 h)
    have HCC := Lib.hid hc
    clear hc
    go_wp2_with fail
    rw [Exit.noGoto_ret]
    go_ret2
    exact ⟨HB1.out, .inl ⟨HR.out, c, HCC.out, hc2, rfl⟩⟩
end Go.Proofs.Ytgoocmocdimnoaa
