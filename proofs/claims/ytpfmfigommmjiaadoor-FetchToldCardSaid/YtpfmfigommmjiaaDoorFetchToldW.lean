/- The walk of FetchTold. -/
import Derived.Test.YtpfmfigommmjiaaDoorBlobs
import Derived.Test.YtpfmfigommmjiaaDoorBlEq
import Derived.Test.YtpfmfigommmjiaaDoorToldP
namespace Go.Proofs.YtpfmfigommmjiaaDoor
open Go.RowKit Plain
set_option linter.unusedVariables false
set_option linter.unusedSimpArgs false
theorem pcsS_strN {T : List Nat} (hT : ∀ c ∈ T, c < 256) (r : Nat) : ((pcsS T).take r).map strN = (pcsT T).take r := by
  unfold pcsS
  rw [← List.map_take, List.map_map]
  refine (List.map_congr_left fun x hx => ?_).trans (List.map_id _)
  obtain ⟨i, _, rfl⟩ := List.mem_map.1 (List.mem_of_mem_take hx)
  exact strN_strOf _ fun c hc => hT c (List.mem_of_mem_drop (List.mem_of_mem_take hc))
theorem pcsS_flat {T : List Nat} (hT : ∀ c ∈ T, c < 256) {r : Nat} (hr : r ≤ nP T.length) : (((pcsS T).take r).map strN).flatten = T.take (1024 * r) := by
  rw [pcsS_strN hT, pcs_take T (k := r) hr]
theorem pcsS_len0 (T : List Nat) : (pcsS T).length = nP T.length := by simp [pcsS, pcs_len, nPc, nP]
theorem pcsS_all {T : List Nat} (hT : ∀ c ∈ T, c < 256) : ((pcsS T).map strN).flatten = T := by
  have h := pcsS_flat hT (Nat.le_refl _)
  rw [← pcsS_len0 T, List.take_length, pcsS_len0, List.take_of_length_le (by unfold nP; omega)] at h
  exact h
theorem pcsS_len (T : List Nat) : (pcsS T).length = nP T.length := by simp [pcsS, pcs_len, nPc, nP]
theorem scan_cut {l : List Bl} {T : List Nat} (h : Frms idf (l.map blN) T) (c : Nat) : ∃ j k, j ≤ l.length ∧ Scan idf (T.take c) ((l.take j).map blN) k := by
  rcases Nat.lt_or_ge c T.length with h1 | h1
  · obtain ⟨m, r, k, e, h2, _⟩ := h.torn idf_length c (by omega)
    refine ⟨m.length, k, ?_, ?_⟩
    · have := congrArg List.length e
      rw [List.length_map, List.length_append] at this
      omega
    · rw [List.map_take, e, List.take_left]
      exact h2
  · rw [List.take_of_length_le h1]
    exact ⟨l.length, T.length, Nat.le_refl _, by rw [List.take_length]; exact h.all idf_length⟩
theorem not_badA : ¬ BadT [((1 : Int), ⟨#[97]⟩)] := by
  rintro (⟨b, hb, h⟩ | ⟨k, o, hf, ho⟩)
  · rw [List.mem_singleton.1 hb] at h
    rcases h with h | h
    · exact h rfl
    · exact absurd h (by decide)
  · have h1 : o.length ≤ 20 := by
      rcases k with _ | k
      · rw [hf.nil_eq rfl]; decide
      · obtain ⟨f, u, h2, h3, rfl⟩ := hf.split
        obtain ⟨_, q, hq, rfl⟩ := h2
        rw [List.take_nil] at h3
        rw [h3.nil_eq rfl]
        have := hq.length
        simp [blN, strN, idf_length]
        omega
    omega
theorem frm_A {T : List Nat} (h : Frms idf ([((1 : Int), (⟨#[97]⟩ : ByteArray))].map blN) T) : nP T.length = 1 := by
  obtain ⟨f, u, h2, h3, rfl⟩ := h.split
  obtain ⟨_, q, hq, rfl⟩ := h2
  rw [h3.nil_eq rfl]
  have := hq.length
  simp [blN, strN, idf_length, nP]
  omega
theorem sat_oneB {w : World} {B : Nat} {b : Bl} (h : w.heap[B]? = some (.cells (blC b).toArray 28 (0, 0))) : SAt 2 blC w (some ⟨B, 0, none⟩) [b] := by
  intro i hi
  obtain rfl : i = 0 := by simp at hi; omega
  exact ⟨B, 0, rfl, lt_of_block h, by simpa using row_rangeG h⟩
theorem sat_takeT {α : Type} {n : Nat} {c : α → List Value} {w : World} {a : Option Addr} {l : List α} (h : SAt n c w a l) (k : Nat) : SAt n c w a (l.take k) := fun i hi => by
  rw [List.length_take] at hi
  obtain ⟨g, off, e, h1, h2⟩ := h i (by omega)
  exact ⟨g, off, e, h1, by rw [List.getElem_take]; exact h2⟩
set_option maxRecDepth 100000 in
set_option maxHeartbeats 8000000 in
theorem fetchTold_any (a : Option Addr) (cap : Nat) (l : List Bl) (n : Int) (w : World) (h : SAt 2 blC w a l) (hl : l.length ≤ cap) (hc : cap ≤ 9223372036854775807) :
    Calls Tryd.prog 3 #[.slice a l.length cap, .int .i64 n] w fun e w' => e = .returned (.bool true) ∧ Below w.heap.size w w' := by
  have HL := Lib.hid h
  have hn0 := heap_alloc_new w (.cells #[.int .i64 1, .string ⟨#[97]⟩] 28)
  have HB0 := Lib.hid ((Below.refl w.heap.size w).alloc (Nat.le_refl _) (.cells #[.int .i64 1, .string ⟨#[97]⟩] 28))
  have HTA := Lib.hid (texts_any (some ⟨w.heap.size, 0, none⟩) 1 [((1 : Int), ⟨#[97]⟩)] _ (sat_oneB (b := ((1 : Int), ⟨#[97]⟩)) hn0) (by decide))
  clear h hn0
  go_enter Tryd.func3, Tryd.ntmps3
  go_wp2_with fail
  refine HTA.out.mono ?_
  rintro e w1 ⟨⟨T1, oa1, oc1, hf1, _, _, _, rfl, _⟩ | ⟨c, _, hbad, rfl⟩, hb1⟩
  rotate_left
  · exact absurd hbad not_badA
  rw [frm_A hf1]
  have HB1 := Lib.hid (HB0.out.trans (hb1.mono HB0.out.size))
  have HT2 := Lib.hid (texts_any a cap l w1 (HL.out.below HB1.out) (by omega))
  clear hf1 hb1 HTA
  go_wp2_with fail
  refine HT2.out.mono ?_
  rintro e w2 ⟨⟨T, oa, oc, hf, hT, hpk, hTl, rfl, hown⟩ | ⟨c, hc0, _, rfl⟩, hb2⟩
  rotate_left
  · have HB2 := Lib.hid (HB1.out.trans (hb2.mono HB1.out.size))
    have c1 : ((c : Int) != 0) = true := by simp; omega
    clear hb2 hc0 HT2
    go_wp2_with fail
    go_ret
    exact ⟨rfl, HB2.out⟩
  have HB2 := Lib.hid (HB1.out.trans (hb2.mono HB1.out.size))
  have hsat : SAt 1 sC w2 oa (pcsS T) := sat_own1 (c := sC) (fun _ => rfl) (cc := oc) (T := 9) (by rw [pcsS_len]; exact hown)
  have hoc := own_capK hown
  have hN : nP T.length ≤ 2000 := by unfold nP; omega
  have HS := Lib.hid hsat
  have HF := Lib.hid hf
  have HT := Lib.hid hT
  have HPK := Lib.hid hpk
  have HK : Hid (∀ b ∈ l, 1 ≤ b.1 ∧ b.1 ≤ 3) := fun b hb => (pcode_zero (hpk b hb)).1
  have HNE : Hid (nP T.length = (pcsS T).length) := (pcsS_len T).symm
  have HNP : Hid (nP T.length = nPc T) := rfl
  have HTL := Lib.hid hTl
  have ho1 := hoc.1
  generalize nP T.length = N at *
  have HOC := Lib.hid ho1
  clear hf hT hpk hown hb2 hsat HT2 hoc ho1 hTl
  go_wp2_with fail
  go_loopw [40] (fun iv wr => ∃ i : Nat, i ≤ N ∧ iv = .int .i64 (i : Int) ∧ wr = w2) (fun iv _ => N - (intOf iv).toNat)
  case atStart => exact ⟨0, Nat.zero_le _, rfl, rfl⟩
  case round =>
    obtain ⟨i, hi, rfl, rfl⟩ := hrel
    by_cases hlt : i < N
    · have kk : (i : Int) < (N : Int) := by omega
      obtain ⟨g, off, rfl, hcell⟩ := str_cell HS.out i (by rw [← HNE.out]; exact hlt)
      obtain ⟨q1, q2, q3⟩ := pc_len T i (by rw [← HNP.out]; exact hlt)
      have hel : ((pcsS T)[i]'(by rw [← HNE.out]; exact hlt)).size = (pcT T i).length := by
        simp only [pcsS, pcsT, List.getElem_map, List.getElem_range]
        rw [strOf_size]
      rw [← hel] at q1 q2 q3
      rw [← HNP.out] at q3
      generalize (pcsS T)[i]'(by rw [← HNE.out]; exact hlt) = r at *
      have f0 := isEmpty_false' (s := r) (by omega)
      have f1 : ¬ ((1024 : Int) < (r.size : Int)) := by omega
      have HLT := Lib.hid hlt
      by_cases hla : i + 1 < N
      · have f2 : ¬ ((r.size : Int) < 1024) := by have := q3 hla; omega
        clear hlt hel q1 q2 q3 hla
        go_wp2_with fail
        go_roundw
        case rel => exact ⟨i + 1, HLT.out, by go_num, trivial⟩
        case measure => simp [intOf]; have := HLT.out; omega
      · have f3 : ¬ ((i : Int) < (N : Int) - 1) := by omega
        have e3 : IntKind.i64.wrap ((N : Int) - 1) = (N : Int) - 1 := wraps_i64 _ (by omega) (by omega)
        by_cases hsm : r.size < 1024
        · have f2 : (r.size : Int) < 1024 := by omega
          clear hlt hel q1 q2 q3 hla hsm
          go_wp2_with fail
          go_roundw
          case rel => exact ⟨i + 1, HLT.out, by go_num, trivial⟩
          case measure => simp [intOf]; have := HLT.out; omega
        · have f2 : ¬ ((r.size : Int) < 1024) := by omega
          clear hlt hel q1 q2 q3 hla hsm
          go_wp2_with fail
          go_roundw
          case rel => exact ⟨i + 1, HLT.out, by go_num, trivial⟩
          case measure => simp [intOf]; have := HLT.out; omega
    · obtain rfl : i = N := by omega
      have m1 : ¬ (i : Int) < (i : Int) := by omega
      have hall : ((pcsS T).map strN).flatten = T := pcsS_all HT.out
      have hbl := blobs_any oa oc (pcsS T) l T.length wr HS.out (by rw [← HNE.out]; omega) (by rw [← HNE.out]; exact HOC.out) (by rw [hall]; have := HTL.out; omega) (by rw [hall]; exact HF.out.all idf_length) HK.out
      rw [hall, decide_eq_true rfl, ← HNE.out] at hbl
      have HBL := Lib.hid hbl
      clear hall hbl hlt
      go_wp2_with fail
      refine HBL.out.mono ?_
      rintro e w3 ⟨ba, bc, rfl, hown3, hb3⟩
      have HB3 := Lib.hid (HB2.out.trans (hb3.mono HB2.out.size))
      have hs3 : SAt 2 blC w3 ba l := sat_own1 (c := blC) blC_length hown3
      have HS3 := Lib.hid hs3
      have HSx := Lib.hid (HS.out.below hb3)
      have hw1 : IntKind.i64.wrap ((i : Int) + 1) = (i : Int) + 1 := wraps_i64 _ (by omega) (by omega)
      have HRE := Lib.hid fun u => rest_any n ((i : Int) + 1) u (by omega) (by omega)
      clear hown3 hb3 hs3 HBL
      go_wp2_with fail
      refine (HRE.out _).mono ?_
      rintro e w4 ⟨⟨r, hr, rfl⟩, rfl⟩
      have hr1 : r ≤ i := by omega
      obtain ⟨j, k, hj, hsc⟩ := scan_cut HF.out (1024 * r)
      have hfl := pcsS_flat HT.out (r := r) (by have := HNE.out; rw [pcsS_len] at this; omega)
      have hbl := blobs_any oa oc ((pcsS T).take r) (l.take j) k w4 (sat_takeT HSx.out r) (by rw [List.length_take]; omega) (by rw [List.length_take]; have := HOC.out; omega) (by rw [hfl, List.length_take]; have := HTL.out; omega) (by rw [hfl]; exact hsc) (fun b hb => HK.out b (List.mem_of_mem_take hb))
      have hlr : ((pcsS T).take r).length = r := by rw [List.length_take, ← HNE.out]; omega
      have hlj : (l.take j).length = j := by rw [List.length_take]; omega
      rw [hlr] at hbl
      have HBL := Lib.hid hbl
      unfold BbEnd at HBL
      rw [hlj] at HBL
      have g1 : (r : Int) ≤ (oc : Int) := by have := HOC.out; omega
      have g2 : (0 : Int) ≤ (r : Int) := Int.natCast_nonneg _
      have HJ := Lib.hid hj
      clear hr hsc hfl hbl hlr hlj hj HRE hw1
      go_wp2_with fail
      refine HBL.out.mono ?_
      rintro e w5 ⟨sa, sc, rfl, hown5, hb5⟩
      have HB5 := Lib.hid (HB3.out.trans (hb5.mono HB3.out.size))
      have hlj : (l.take j).length = j := by rw [List.length_take]; have := HJ.out; omega
      have hs5 : SAt 2 blC w5 sa (l.take j) := sat_own1 (c := blC) blC_length (cc := sc) (T := 28) (by rw [hlj]; exact hown5)
      have HQ1 := Lib.hid (eqBls_any ba a bc cap l l w5 (HS3.out.below hb5) (HL.out.below HB5.out) (by omega) (by omega))
      clear hown5 hb5 HBL
      go_wp2_with fail
      refine HQ1.out.mono ?_
      rintro e w6 ⟨⟨q, rfl, hq⟩, hb6⟩
      obtain rfl : q = true := hq.2 rfl
      have HB6 := Lib.hid (HB5.out.trans (hb6.mono HB5.out.size))
      have hq2 := eqBls_any sa a sc cap (l.take j) (l.take j) w6 (hs5.below hb6) (sat_takeT (HL.out.below HB6.out) j) (by rw [hlj]; have := HJ.out; omega) (by rw [hlj]; have := HJ.out; omega)
      rw [hlj] at hq2
      have HQ2 := Lib.hid hq2
      have g3 : (j : Int) ≤ (l.length : Int) := by have := HJ.out; omega
      have g4 : (0 : Int) ≤ (j : Int) := Int.natCast_nonneg _
      have g5 : (j : Int) ≤ (cap : Int) := by omega
      clear hq hb6 hs5 hq2 hlj HQ1
      go_wp2_with fail
      refine HQ2.out.mono ?_
      rintro e w7 ⟨⟨q, rfl, hq⟩, hb7⟩
      obtain rfl : q = true := hq.2 rfl
      have HB7 := Lib.hid (HB6.out.trans (hb7.mono HB6.out.size))
      clear hq hb7
      go_wp2_with fail
      go_ret
      exact ⟨rfl, HB7.out⟩
end Go.Proofs.YtpfmfigommmjiaaDoor
