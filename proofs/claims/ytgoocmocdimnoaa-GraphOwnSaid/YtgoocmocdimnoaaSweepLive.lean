/- The walks of sweep's live and Live. -/
import Derived.Test.YtgoocmocdimnoaaSweepCheck
namespace Go.Proofs.Ytgoocmocdimnoaa
open Go.RowKit Plain
set_option linter.unusedVariables false
def gOf (r : TRow) : GRow := (r.1, r.2.1, r.2.2.1)
theorem gK_of (rows : List TRow) : gK (rows.map gOf) = kidsOf (tK rows) := by simp [gK, kidsOf, tK, gOf, Function.comp_def]
theorem info_ints : (Try.prog.info? 23).map (fun i => (i.zero, i.size, i.bytes)) = some (some (.slice none 0 0), 1, 24) := by kernel_rfl
theorem own_formS {w : World} {base : Nat} {t : TypeId} {k n : Nat} {v : Value} {xs : List Value} (h : w.ownsRow base t k v n xs) : ∃ a c, v = .slice a n c := by
  rcases h.2 with ⟨rfl, h0⟩ | ⟨g, cap, cur, rfl, _⟩
  · exact ⟨none, 0, by rw [h0]⟩
  · exact ⟨_, cap, rfl⟩
set_option maxRecDepth 100000 in
set_option maxHeartbeats 1000000 in
theorem live_any (a : Option Addr) (tc : Nat) (rows : List TRow) (b : Option Addr) (rc : Nat) (rs : List Int) (bz : Bool) (w : World) (h : TAt w a rows) (hk : SAt 1 iC w b rs) (hok : HOk (tK rows, rs, bz)) :
    Calls Try.prog 43 #[.agg #[.slice a rows.length tc, .slice b rs.length rc, .bool bz]] w (ClEnd w (kidsOf (tK rows)) rs) := by
  obtain ⟨i0, hi0, hz0, hz1, hz2⟩ := info_parts info_ints
  have HB := Lib.hid ((Below.refl w.heap.size w).alloc (Nat.le_refl _) (.cells #[.slice a rows.length tc, .slice b rs.length rc, .bool bz] 41))
  have HBX := Lib.hid (heap_alloc_new w (.cells #[.slice a rows.length tc, .slice b rs.length rc, .bool bz] 41))
  have HS := Lib.hid h
  have HK := Lib.hid hk
  have HGO := Lib.hid hok.gok
  have HLN := Lib.hid (gK_of rows)
  have h40 : rows.length ≤ 40 := by have := hok.1; rwa [show (tK rows, rs, bz).1 = tK rows from rfl, tK_length] at this
  clear h hk hok
  go_enter Try.func43, Try.ntmps43
  go_wp2_with fail
  go_loopw [3, 9] (fun sv iv wr => ∃ (i : Nat) (sa : Option Addr) (sc : Nat), i ≤ rows.length ∧ sv = .slice sa i sc ∧ iv = .int .i64 (i : Int) ∧ Below w.heap.size w wr ∧ wr.heap[w.heap.size]? = some (.cells #[.slice a rows.length tc, .slice b rs.length rc, .bool bz] 41 (0, 0)) ∧ wr.ownsRow w.heap.size 23 1 (.slice sa i sc) i (((rows.map gOf).take i).flatMap gC)) (fun _ iv _ => rows.length - (intOf iv).toNat)
  case atStart => exact ⟨0, none, 0, by omega, rfl, rfl, HB.out, HBX.out, by simpa using World.ownsRow_nil _ _ _ _⟩
  case round =>
    obtain ⟨i, sa, sc, hi, rfl, rfl, hbr, hbx, hown⟩ := hrel
    have HBR := Lib.hid hbr
    have HBXR := Lib.hid hbx
    have HOWN := Lib.hid hown
    have b0 := cell_of_row wr w.heap.size 0 _ _ _ hbx
    have b1 := cell_of_row wr w.heap.size 1 _ _ _ hbx
    have b2 := cell_of_row wr w.heap.size 2 _ _ _ hbx
    simp only [List.getElem?_toArray, List.getElem?_cons_zero, List.getElem?_cons_succ] at b0 b1 b2
    clear hbr hown hbx HB HBX
    by_cases hlt : i < rows.length
    · have m3 : (i : Int) < (rows.length : Int) := by omega
      have HSR := Lib.hid (HS.out.below HBR.out)
      have HSQ : Hid (((rows.map gOf).take (i + 1)).flatMap gC = ((rows.map gOf).take i).flatMap gC ++ gC (gOf rows[i])) := by
        show _ = _
        rw [List.take_succ_eq_append_getElem (by simpa using hlt), List.flatMap_append, List.getElem_map]
        simp
      obtain ⟨g, off, rfl, hg, c0, c1, c2⟩ := HSR.out.1.thg i hlt _ rfl
      generalize rows[i] = r at *
      obtain ⟨ka, kc, kids, col, fr⟩ := r
      simp only at c0 c1 c2
      have HGC : Hid (gC (gOf (ka, kc, kids, col, fr)) = [.slice ka kids.length kc]) := rfl
      have HB2 := Lib.hid ((HBR.out.alloc HBR.out.size (.cells #[.slice ka kids.length kc, .int .i64 col, .bool fr] 47)))
      have hBs := HBR.out.size
      have D1 := Lib.hid (cells_new_at (wr.alloc (.cells #[.slice ka kids.length kc, .int .i64 col, .bool fr] 47)) (wr.heap.size + 1) (by simp) #[.slice ka kids.length kc] 23 [.slice ka kids.length kc] rfl)
      have D2 : Hid (∀ u ∈ ([.slice ka kids.length kc] : List Value), u.oneCell' = true) := by intro u hu; simp only [List.mem_cons, List.not_mem_nil, or_false] at hu; rcases hu with rfl <;> rfl
      have D3 : Hid (i + 1 ≤ maxLen) := by show _ ≤ _; unfold maxLen; omega
      have D4 : Hid ((i + 1) * 24 ≤ 140737488355328) := by show _ ≤ _; omega
      have D5 : Hid (w.heap.size ≤ ((wr.alloc (.cells #[.slice ka kids.length kc, .int .i64 col, .bool fr] 47)).alloc (.cells #[.slice ka kids.length kc] 23)).heap.size) := by show _ ≤ _; simp; omega
      have HX1 := Lib.hid ((Below.heap_alloc (wr.alloc (.cells #[.slice ka kids.length kc, .int .i64 col, .bool fr] 47)) (.cells #[.slice ka kids.length kc] 23) w.heap.size (by simp; omega)).trans ((Below.heap_alloc wr (.cells #[.slice ka kids.length kc, .int .i64 col, .bool fr] 47) w.heap.size (lt_of_block HBXR.out)).trans HBXR.out))
      have HA2 := Lib.hid (HOWN.out.alloc (.cells #[.slice ka kids.length kc, .int .i64 col, .bool fr] 47))
      go_wp2_with (at_builtin; refine wpList_append_own _ rfl _ _ 22 rfl w.heap.size 23 i0 (.slice none 0 0) 1 24 Try.underlying22 hi0 hz0 hz1 hz2 rfl (by decide) _ _ _ rfl (HA2.out.alloc _) ⟨wr.heap.size + 1, 0, none⟩ 1 1 [.slice ka kids.length kc] rfl rfl D1.out D2.out D3.out D4.out D5.out ?_)
      intro v' w2 hown' hgrow _
      have BW := Lib.hid (below_own (HB2.out.alloc HB2.out.size _) hgrow D5.out (HA2.out.alloc _) (Nat.le_refl _))
      have HX2 := Lib.hid ((hgrow.block w.heap.size (lt_of_block HX1.out) (own_neq (HA2.out.alloc _) HX1.out (by decide))).trans HX1.out)
      obtain ⟨oa3, oc3, rfl⟩ := own_formS hown'
      have OW : Hid (w2.ownsRow w.heap.size 23 1 (.slice oa3 (i + 1) oc3) (i + 1) (((rows.map gOf).take (i + 1)).flatMap gC)) := by
        show w2.ownsRow _ _ _ _ _ _
        rw [HSQ.out, HGC.out]
        exact hown'
      clear hown' hgrow
      go_wp2_with fail
      go_roundw
      case rel => exact ⟨i + 1, oa3, oc3, by omega, rfl, by go_num, BW.out, HX2.out, OW.out⟩
      case measure => simp [intOf]; omega
    · have m3 : ¬ (i : Int) < (rows.length : Int) := by omega
      obtain rfl : i = rows.length := by omega
      have HGA : Hid (GAt wr sa (rows.map gOf)) := by
        have h := HOWN.out
        rw [List.take_of_length_le (by simp)] at h
        obtain ⟨a', cap', e, _, _, hs⟩ := SAt.own (l := rows.map gOf) (by simpa using h) gC_length
        injection e with e1 _ _
        subst e1
        refine ⟨hs, fun r hr => ?_⟩
        obtain ⟨x, hx, rfl⟩ := List.mem_map.1 hr
        have := (HS.out.below HBR.out).2 x hx
        exact this
      have HCL := Lib.hid (closure_any sa b sc rc (rows.map gOf) rs wr HGA.out (HK.out.below HBR.out) (by rw [HLN.out]; exact HGO.out.1) (by rw [HLN.out]; exact HGO.out.2))
      rw [List.length_map] at HCL
      go_wp2_with fail
      refine HCL.out.mono ?_
      rintro e w2 ⟨hb2, g, o, rfl, hg1, hg2, hrow, hsp⟩
      rw [HLN.out] at hsp
      have HB2 := Lib.hid (Below.step HBR.out hb2)
      have HROW := Lib.hid hrow
      have HSP := Lib.hid hsp
      have HG1 : Hid (w.heap.size ≤ g) := Nat.le_trans HBR.out.size hg1
      have HG2 := Lib.hid hg2

      clear hb2 hrow hsp hg1 hg2
      go_wp2_with fail
      go_ret
      exact ⟨HB2.out, g, o, by rw [← HLN.out]; rfl, HG1.out, HG2.out, HROW.out, HSP.out⟩
def LvEnd (w0 : World) (h : Hp) (e : Ending) (w : World) : Prop := Below w0.heap.size w0 w ∧
  ((¬ HOk h ∧ ∃ c : Nat, c ≠ 0 ∧ c ≤ 4 ∧ e = .returned (.tuple #[.slice none 0 0, .int .i64 (c : Int)])) ∨
   (HOk h ∧ ∃ g o, e = .returned (.tuple #[.slice (some ⟨g, 0, none⟩) h.1.length h.1.length, .int .i64 0]) ∧ w0.heap.size ≤ g ∧ g < w.heap.size ∧ w.heap[g]? = some (.cells (oC o) 4 (0, 0)) ∧ GSpec (kidsOf h.1) h.2.1 o))
set_option maxRecDepth 100000 in
set_option maxHeartbeats 1000000 in
theorem liveE_any (a : Option Addr) (tc : Nat) (rows : List TRow) (b : Option Addr) (rc : Nat) (rs : List Int) (bz : Bool) (w : World) (h : TAt w a rows) (hl : rows.length ≤ 9223372036854775807) (hk : SAt 1 iC w b rs) (hkl : rs.length ≤ 9223372036854775807) :
    Calls Try.prog 23 #[.agg #[.slice a rows.length tc, .slice b rs.length rc, .bool bz]] w (LvEnd w (tK rows, rs, bz)) := by
  have HB := Lib.hid ((Below.refl w.heap.size w).alloc (Nat.le_refl _) (.cells #[.slice a rows.length tc, .slice b rs.length rc, .bool bz] 41))
  have HBX := Lib.hid (heap_alloc_new w (.cells #[.slice a rows.length tc, .slice b rs.length rc, .bool bz] 41))
  have HS := Lib.hid h
  have HK := Lib.hid hk
  have HCK := Lib.hid (hcheck_any a tc rows b rc rs bz _ (h.below HB.out) hl (hk.below HB.out) hkl)
  have HL := Lib.hid fun hok (wx : World) (h1 : TAt wx a rows) (h2 : SAt 1 iC wx b rs) => live_any a tc rows b rc rs bz wx h1 h2 hok
  clear h hk
  go_enter Try.func23, Try.ntmps23
  go_wp2_with fail
  refine HCK.out.mono ?_
  rintro e w1 ⟨c, rfl, hc4, hc0, hb⟩
  have HB1 := Lib.hid (Below.step HB.out hb)
  have HBX1 := Lib.hid ((hb.block _ (lt_of_block HBX.out)).trans HBX.out)
  have HC0 := Lib.hid hc0
  have b0 := cell_of_row w1 w.heap.size 0 _ _ _ HBX1.out
  have b1 := cell_of_row w1 w.heap.size 1 _ _ _ HBX1.out
  have b2 := cell_of_row w1 w.heap.size 2 _ _ _ HBX1.out
  simp only [List.getElem?_toArray, List.getElem?_cons_zero, List.getElem?_cons_succ] at b0 b1 b2
  clear hb hc0 HB HBX HCK
  by_cases hc : c = 0
  · have HT := Lib.hid (HC0.out.1 hc)
    subst hc
    have HLV := Lib.hid (HL.out HT.out w1 (HS.out.below HB1.out) (HK.out.below HB1.out))
    go_wp2_with fail
    refine HLV.out.mono ?_
    rintro e w2 ⟨hb2, g, o, rfl, hg1, hg2, hrow, hsp⟩
    have HB2 := Lib.hid (Below.step HB1.out hb2)
    have HROW := Lib.hid hrow
    have HSP := Lib.hid hsp
    have HG1 : Hid (w.heap.size ≤ g) := Nat.le_trans HB1.out.size hg1
    have HG2 := Lib.hid hg2
    have HLE : Hid ((kidsOf (tK rows)).length = (tK rows).length) := by show _ = _; simp [kidsOf]
    clear hb2 hrow hsp hg1 hg2
    go_wp2_with fail
    go_ret2
    exact ⟨HB2.out, .inr ⟨HT.out, g, o, by rw [HLE.out]; rfl, HG1.out, HG2.out, HROW.out, HSP.out⟩⟩
  · have f1 : ((c : Int) != 0) = true := by simp; omega
    have HR : Hid (¬ HOk (tK rows, rs, bz)) := fun h => hc (HC0.out.2 h)
    have HCN := Lib.hid hc
    clear hc
    go_wp2_with fail
    go_ret2
    exact ⟨HB1.out, .inl ⟨HR.out, c, HCN.out, hc4, rfl⟩⟩
end Go.Proofs.Ytgoocmocdimnoaa
