/- The walk of GraphLeast. -/
import Derived.Test.YtgoocmocdimnoaaGraphOpen
namespace Go.Proofs.Ytgoocmocdimnoaa
open Go.RowKit Plain
namespace Plain
/-- a set that has the roots, and with each thing its kids -/
def Cls (ks : List (List Int)) (rs : List Int) (s : List Bool) : Prop := (∀ k ∈ rs, s.getD k.toNat false = true) ∧ ∀ i, i < ks.length → ∀ k ∈ ks.getD i [], s.getD i false = true → s.getD k.toNat false = true
theorem cls_of {ks : List (List Int)} {rs : List Int} {l : List Bool} (hg : Gok ks) (hr : Rok ks rs) (h : GSpec ks rs l) : Cls ks rs l := by
  refine ⟨fun k hk => (h.2 _).2 (.root (by rw [Int.toNat_of_nonneg (hr.2 k hk).1]; exact hk)), fun i _ k hk hi => (h.2 _).2 (.step ((h.2 i).1 hi) (by rw [Int.toNat_of_nonneg ((hg.row i).2 k hk).1]; exact hk))⟩
theorem cls_least {ks : List (List Int)} {rs : List Int} {l s : List Bool} (h : GSpec ks rs l) (hs : Cls ks rs s) (hi : ∀ i, s.getD i false = true → i < ks.length) (i : Nat) (hl : l.getD i false = true) : s.getD i false = true := by
  refine least (s := fun k => s.getD k false = true) (fun k hk => ?_) (fun j k hj hk => ?_) ((h.2 i).1 hl)
  · have := hs.1 _ hk
    rwa [Int.toNat_natCast] at this
  · have := hs.2 j (hi j hj) _ hk hj
    rwa [Int.toNat_natCast] at this
end Plain
theorem SAt.bool0' {w : World} {a : Option Addr} {l : List Bool} (h : SAt 1 bC w a l) (i : Nat) (hi : i < l.length) : ∃ g off, a = some ⟨g, off, none⟩ ∧ w.cell? ⟨g, off + i, none⟩ = some (.bool (l.getD i false)) := by
  obtain ⟨g, off, e, _, hr⟩ := h.bool i hi
  refine ⟨g, off, e, ?_⟩
  rw [hr, List.getD_eq_getElem?_getD, List.getElem?_eq_getElem hi]
  rfl
def InAll (s : List Bool) (i : Nat) (l : List Int) : Prop := ∀ k ∈ l, s.getD i false = true → s.getD k.toNat false = true
def ClsEnd (w0 : World) (ks : List (List Int)) (rs : List Int) (s : List Bool) (e : Ending) (w : World) : Prop := ∃ t : Bool, e = .returned (.bool t) ∧ (t = true ↔ Cls ks rs s) ∧ Below w0.heap.size w0 w
set_option maxRecDepth 100000 in
set_option maxHeartbeats 2000000 in
theorem closed_any (a b c : Option Addr) (cap cb cc kb rb : Nat) (rows : List GRow) (rs : List Int) (s : List Bool) (w : World) (h : GAt w a rows) (hr : SAt 1 iC w b rs) (hs : SAt 1 bC w c s) (hl : rows.length ≤ 9223372036854775807) (hrl : rs.length ≤ 9223372036854775807)
    (hk : w.heap[kb]? = some (.cells #[.slice a rows.length cap] 22 (0, 0))) (hb : w.heap[rb]? = some (.cells #[.slice b rs.length cb] 23 (0, 0))) (hg : Gok (gK rows)) (hro : Rok (gK rows) rs) (hn : s.length = rows.length) :
    Calls Try.prog 15 #[.slice c s.length cc, .pointer (some ⟨rb, 0, none⟩), .pointer (some ⟨kb, 0, none⟩)] w (ClsEnd w (gK rows) rs s) := by
  have HG := Lib.hid h
  have HRS := Lib.hid hr
  have HS := Lib.hid hs
  have HOK := Lib.hid hg
  have HRO := Lib.hid hro
  have HLN := Lib.hid (gK_length rows)
  have HKB := Lib.hid hk
  have hkc := cell_of_row w kb 0 _ _ _ hk
  have hbc := cell_of_row w rb 0 _ _ _ hb
  simp only [List.getElem?_toArray, List.getElem?_cons_zero] at hkc hbc
  clear h hr hs hg hro hk hb
  go_enter Try.func15, Try.ntmps15
  go_wp2_with fail
  go_loopw [13] (fun iv wr => ∃ i : Nat, i ≤ rs.length ∧ iv = .int .i64 (i : Int) ∧ Below w.heap.size w wr ∧ ∀ k ∈ rs.take i, s.getD k.toNat false = true) (fun iv _ => rs.length - (intOf iv).toNat)
  case atStart => exact ⟨0, by omega, rfl, Below.refl _ _, by simp⟩
  case round =>
    obtain ⟨i, hi, rfl, hbr, hall⟩ := hrel
    have HBR := Lib.hid hbr
    have HALL := Lib.hid hall
    clear hbr hall
    by_cases hlt : i < rs.length
    · have m1 : (i : Int) < (rs.length : Int) := by omega
      obtain ⟨g, off, rfl, hg, hr⟩ := (HRS.out.below HBR.out).int i hlt
      have hkb := HRO.out.2 _ (List.getElem_mem hlt)
      have HMEM : Hid (rs[i] ∈ rs) := List.getElem_mem hlt
      have HST : Hid (rs.take (i + 1) = rs.take i ++ [rs[i]]) := List.take_succ_eq_append_getElem hlt
      generalize rs[i] = kk at *
      obtain ⟨hk0, hk1⟩ := hkb
      rw [HLN.out] at hk1
      obtain ⟨kn, rfl⟩ := Int.eq_ofNat_of_zero_le hk0
      have m2 : (kn : Int) < (s.length : Int) := by omega
      obtain ⟨g2, off2, rfl, hc2⟩ := (HS.out.below HBR.out).bool0' kn (by omega)
      clear hg
      cases hq : s.getD kn false with
      | true =>
        rw [hq] at hc2
        have HA : Hid (∀ k ∈ rs.take (i + 1), s.getD k.toNat false = true) := by
          show ∀ _, _
          rw [HST.out]
          intro k hk
          rcases List.mem_append.1 hk with hk | hk
          · exact HALL.out k hk
          · simp only [List.mem_singleton] at hk; subst hk; rw [Int.toNat_natCast]; exact hq
        clear hq
        go_wp2_with fail
        go_roundw
        case rel => exact ⟨i + 1, by omega, by go_num, HBR.out, HA.out⟩
        case measure => simp [intOf]; omega
      | false =>
        rw [hq] at hc2
        have HA : Hid (¬ Cls (gK rows) rs s) := fun h => by
          have := h.1 _ HMEM.out
          rw [Int.toNat_natCast, hq] at this
          cases this
        clear hq
        go_wp2_with fail
        go_ret
        exact ⟨false, rfl, by simp [HA.out], HBR.out⟩
    · have m1 : ¬ (i : Int) < (rs.length : Int) := by omega
      have HROOTS : Hid (∀ k ∈ rs, s.getD k.toNat false = true) := by
        have h := HALL.out
        rwa [List.take_of_length_le (by omega)] at h
      have hkc2 := cell_of_row wr kb 0 _ _ _ ((HBR.out.block kb (lt_of_block HKB.out)).trans HKB.out)
      simp only [List.getElem?_toArray, List.getElem?_cons_zero] at hkc2
      go_wp2_with fail
      go_loopw [25] (fun iv wr => ∃ i : Nat, i ≤ rows.length ∧ iv = .int .i64 (i : Int) ∧ Below w.heap.size w wr ∧ ∀ j, j < i → ∀ k ∈ (gK rows).getD j [], s.getD j false = true → s.getD k.toNat false = true) (fun iv _ => rows.length - (intOf iv).toNat)
      case atStart => exact ⟨0, by omega, rfl, HBR.out, fun j hj => by omega⟩
      case round =>
        obtain ⟨i, hi, rfl, hbr, hall⟩ := hrel
        have HBR := Lib.hid hbr
        have HALL := Lib.hid hall
        clear hbr hall
        by_cases hlt : i < rows.length
        · have m1 : (i : Int) < (rows.length : Int) := by omega
          obtain ⟨g2, off2, rfl, hg2, hr2, _, _⟩ := (HG.out.below HBR.out).row i hlt
          have HKD := Lib.hid (gK_getD rows i hlt)
          have HSR0 := Lib.hid ((HG.out.2 _ (List.getElem_mem hlt)).1.below HBR.out)
          have hrl := (HOK.out.row i)
          rw [HKD.out] at hrl
          obtain ⟨hrl1, hrl2⟩ := hrl
          have HRL := Lib.hid hrl2
          generalize rows[i] = r at *
          obtain ⟨ra, rc, row⟩ := r
          have hrow64 : row.length ≤ 64 := hrl1
          have hr3 : wr.cell? ⟨g2, off2 + i, none⟩ = some (.slice ra row.length rc) := hr2
          clear hr2 hg2 hrl1 hrl2
          obtain ⟨wo, rfl⟩ : ∃ wo : World, wo = wr := ⟨_, rfl⟩
          go_wp2_with fail
          go_loopw [32] (fun jv wr => ∃ j : Nat, j ≤ row.length ∧ jv = .int .i64 (j : Int) ∧ wr = wo ∧ InAll s i (row.take j)) (fun jv _ => row.length - (intOf jv).toNat)
          case atStart => exact ⟨0, by omega, rfl, rfl, by unfold InAll; simp⟩
          case round =>
            obtain ⟨j, hj, rfl, hww, hin⟩ := hrel
            subst hww
            have HIN := Lib.hid hin
            clear hin
            by_cases hjl : j < row.length
            · have m3 : (j : Int) < (row.length : Int) := by omega
              obtain ⟨g3, off3, rfl, hg3, hr4⟩ := HSR0.out.int j hjl
              have hkb := HRL.out _ (List.getElem_mem hjl)
              have HKM : Hid (row[j] ∈ row) := List.getElem_mem hjl
              have HSQ : Hid (row.take (j + 1) = row.take j ++ [row[j]]) := List.take_succ_eq_append_getElem hjl
              generalize row[j] = kk at *
              obtain ⟨hk0, hk1⟩ := hkb
              rw [HLN.out] at hk1
              obtain ⟨kn, rfl⟩ := Int.eq_ofNat_of_zero_le hk0
              have m4 : (kn : Int) < (s.length : Int) := by omega
              have m5 : (i : Int) < (s.length : Int) := by omega
              obtain ⟨g4, off4, rfl, hc4⟩ := (HS.out.below HBR.out).bool0' kn (by omega)
              obtain ⟨g5, off5, e5, hc5⟩ := (HS.out.below HBR.out).bool0' i (by omega)
              injection e5 with e5
              injection e5 with e5 e6 _
              subst e5 e6
              clear hg3
              cases hqi : s.getD i false with
              | false =>
                rw [hqi] at hc5
                have HA : Hid (InAll s i (row.take (j + 1))) := fun k _ h => by rw [hqi] at h; cases h
                clear hqi
                go_wp2_with fail
                go_roundw
                case rel => exact ⟨j + 1, by omega, by go_num, by first | rfl | trivial, HA.out⟩
                case measure => simp [intOf]; omega
              | true =>
                cases hq : s.getD kn false with
                | true =>
                  rw [hq] at hc4
                  rw [hqi] at hc5
                  have HA : Hid (InAll s i (row.take (j + 1))) := by
                    show InAll _ _ _
                    rw [HSQ.out]
                    intro k hk
                    rcases List.mem_append.1 hk with hk | hk
                    · exact HIN.out k hk
                    · simp only [List.mem_singleton] at hk; subst hk; rw [Int.toNat_natCast]; exact fun _ => hq
                  clear hqi hq
                  go_wp2_with fail
                  go_roundw
                  case rel => exact ⟨j + 1, by omega, by go_num, by first | rfl | trivial, HA.out⟩
                  case measure => simp [intOf]; omega
                | false =>
                  rw [hq] at hc4
                  rw [hqi] at hc5
                  have HA : Hid (¬ Cls (gK rows) rs s) := fun h => by
                    have := h.2 i (by rw [HLN.out]; exact hlt) (kn : Int) (by rw [HKD.out]; exact HKM.out) hqi
                    rw [Int.toNat_natCast, hq] at this
                    cases this
                  clear hqi hq
                  go_wp2_with fail
                  go_ret
                  exact ⟨false, rfl, by simp [HA.out], HBR.out⟩
            · have m3 : ¬ (j : Int) < (row.length : Int) := by omega
              have HA : Hid (∀ j, j < i + 1 → ∀ k ∈ (gK rows).getD j [], s.getD j false = true → s.getD k.toNat false = true) := by
                intro j' hj' k hk
                by_cases e : j' = i
                · subst e
                  rw [HKD.out] at hk
                  have := HIN.out k
                  rw [List.take_of_length_le (by omega)] at this
                  exact this hk
                · exact HALL.out j' (by omega) k hk
              go_wp2_with fail
              go_roundw
              case rel => exact ⟨i + 1, by omega, by go_num, HBR.out, HA.out⟩
              case measure => simp [intOf]; omega
        · have m1 : ¬ (i : Int) < (rows.length : Int) := by omega
          have HA : Hid (Cls (gK rows) rs s) := ⟨HROOTS.out, fun j hj => HALL.out j (by rw [HLN.out] at hj; omega)⟩
          go_wp2_with fail
          go_ret
          exact ⟨true, rfl, by simp [HA.out], HBR.out⟩
end Go.Proofs.Ytgoocmocdimnoaa
