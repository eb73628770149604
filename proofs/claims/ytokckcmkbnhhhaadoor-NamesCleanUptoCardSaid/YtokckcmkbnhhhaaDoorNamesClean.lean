/- The walk of names.Clean. -/
import Derived.Test.YtokckcmkbnhhhaaDoorNamesW2
import Derived.Test.YtokckcmkbnhhhaaDoorAppendSat
namespace Go.Proofs.YtokckcmkbnhhhaaDoor
open Go.RowKit Plain
theorem cl_none : ∀ l : List T, l.foldl clStep none = none
  | [] => rfl
  | a :: l => by rw [List.foldl_cons]; exact cl_none l
theorem cleanP_none {p : T} (h : (spl p).foldl clStep (some []) = none) : cleanP ck p = ([], 8) := by unfold cleanP; rw [h]
theorem cleanP_some {p : T} {l : List T} (h : (spl p).foldl clStep (some []) = some l) : cleanP ck p = joinP ck l := by unfold cleanP; rw [h]
theorem snoc_ofS {α : Type} (l : List α) (h : l ≠ []) : ∃ m t, l = m ++ [t] := ⟨l.dropLast, l.getLast h, (List.dropLast_concat_getLast h).symm⟩
theorem tl_snoc (l : List ByteArray) (s : ByteArray) : tl (l ++ [s]) = tl l ++ [bT s] := by simp [tl]
theorem sC_take (st : List ByteArray) (k : ByteArray) : ((st ++ [k]).flatMap sC).take (st.length * 1) = st.flatMap sC := by
  rw [List.flatMap_append, List.take_append_of_le_length (by rw [flat_length sC_length]; exact Nat.le_refl _)]
  exact List.take_of_length_le (by rw [flat_length sC_length]; exact Nat.le_refl _)
theorem own_capS {w : World} {base : Nat} {t : TypeId} {k n c : Nat} {a : Option Addr} {xs : List Value} (h : w.ownsRow base t k (.slice a n c) n xs) : n ≤ c ∧ c ≤ 9223372036854775807 := by
  rcases h.2 with ⟨hv, h0⟩ | ⟨g, cap, cur, hv, _, _, h1, h2, _⟩
  · injection hv with _ _ hv
    omega
  · injection hv with _ _ hv
    unfold maxLen at h2
    omega
set_option maxRecDepth 100000 in
set_option maxHeartbeats 1000000 in
theorem clean_any (p : ByteArray) (m : Int) (w : World) (hp : p.size < 4294967281) (hm : MaxL m w) (hT : Tabs w) :
    Calls Tryd.prog 24 #[.string p] w fun e w' => e = .returned (.tuple #[.string ⟨(cleanP ck (bT p)).1.toArray⟩, .int .i64 (cleanP ck (bT p)).2]) ∧ Below w.heap.size w w' := by
  obtain ⟨i0, hi0, hz0, hz1, hz2⟩ := info_parts info_str
  have HSL := Lib.hid (lsplit_any p m w hp hm)
  have HJN := Lib.hid join_any2
  have HT := Lib.hid hT
  have HCN : Hid ((spl (bT p)).foldl clStep (some []) = none → cleanP ck (bT p) = ([], 8)) := cleanP_none
  have HCS : Hid (∀ l, (spl (bT p)).foldl clStep (some []) = some l → cleanP ck (bT p) = joinP ck l) := fun l h => cleanP_some h
  clear hm hT
  generalize cleanP ck (bT p) = R at *
  go_enter Tryd.func24, Tryd.ntmps24
  go_wp2_with fail
  refine HSL.out.mono ?_
  rintro e w1 ⟨hb1, gp, P, rfl, hsP, htP, hzP, hlP⟩
  have HB1 := Lib.hid hb1
  have HSP := Lib.hid hsP
  have HZP : Hid (∀ y ∈ P, y.size ≤ 4294967296) := fun y hy => by have := hzP y hy; omega
  rw [← htP] at HCN HCS
  have hP32 : P.length ≤ 4294967296 := by omega
  clear hb1 hsP htP hzP hlP HSL
  go_wp2_with fail
  go_loopw [4, 10] (fun lv iv wr => ∃ (i : Nat) (L : List ByteArray) (oa : Option Addr) (oc : Nat), i ≤ P.length ∧ lv = .slice oa L.length oc ∧ iv = .int .i64 (i : Int) ∧ Hid (wr.ownsRow w1.heap.size 9 1 (.slice oa L.length oc) L.length (L.flatMap sC)) ∧ Hid (Below w1.heap.size w1 wr) ∧ Hid ((tl (P.drop i)).foldl clStep (some (tl L)) = (tl P).foldl clStep (some [])) ∧ Hid (L.length ≤ i) ∧ Hid (∀ y ∈ L, y.size ≤ 4294967296)) (fun _ iv _ => P.length - (intOf iv).toNat)
  case atStart => exact ⟨0, [], none, 0, by omega, rfl, rfl, Lib.hid (World.ownsRow_nil _ _ _ _), Lib.hid (Below.refl _ _), Lib.hid rfl, Lib.hid (by simp), Lib.hid (by simp)⟩
  case round =>
    obtain ⟨i, L, oa, oc, hi, rfl, rfl, HOWN, HBR, HF, HLI, HZL⟩ := hrel
    have HBW := Lib.hid (Below.step HB1.out HBR.out)
    by_cases hlt : i < P.length
    · have m1 : (i : Int) < (P.length : Int) := by omega
      obtain ⟨g, off, e, hr⟩ := str_cell (HSP.out.below HBR.out) i hlt
      injection e with e
      injection e with e1 e2 _
      subst e1 e2
      have HD : Hid ((tl (P.drop (i + 1))).foldl clStep (clStep (some (tl L)) (bT P[i])) = (tl P).foldl clStep (some [])) := by
        have := HF.out
        rw [List.drop_eq_getElem_cons hlt] at this
        exact this
      have HZ1 := Lib.hid (HZP.out _ (List.getElem_mem hlt))
      rw [Nat.zero_add] at hr
      clear HF
      generalize P[i] = s at *
      by_cases h0 : s.size = 0
      · have f0 := empty_strB h0
        have HN : Hid ((tl (P.drop (i + 1))).foldl clStep (some (tl L)) = (tl P).foldl clStep (some [])) := by
          have := HD.out
          have hs : bT s = [] := List.eq_nil_of_length_eq_zero (by rw [bT_length]; exact h0)
          rwa [hs, show clStep (some (tl L)) [] = some (tl L) by simp [clStep]] at this
        have HL2 : Hid (L.length ≤ i + 1) := by have := HLI.out; show _ ≤ _; omega
        clear h0 HD
        go_wp2_with fail
        go_roundw
        case rel => exact ⟨i + 1, L, oa, oc, by omega, rfl, by go_num, HOWN, HBR, HN, HL2, HZL⟩
        case measure => simp [intOf]; omega
      · have f0 := full_strB h0
        by_cases h1 : s = dotB
        · have f1 : (s.toList == [46]) = true := dotB_list ▸ same_strB (b := dotB) h1
          have HN : Hid ((tl (P.drop (i + 1))).foldl clStep (some (tl L)) = (tl P).foldl clStep (some [])) := by
            have := HD.out
            have hs : bT s = [46] := by rw [h1]; rfl
            rwa [hs, show clStep (some (tl L)) [46] = some (tl L) by simp [clStep]] at this
          have HL2 : Hid (L.length ≤ i + 1) := by have := HLI.out; show _ ≤ _; omega
          clear h0 h1 HD
          go_wp2_with fail
          go_roundw
          case rel => exact ⟨i + 1, L, oa, oc, by omega, rfl, by go_num, HOWN, HBR, HN, HL2, HZL⟩
          case measure => simp [intOf]; omega
        · have f1 : (s.toList == [46]) = false := dotB_list ▸ other_strB (b := dotB) h1
          by_cases h2 : s = dot2B
          · have f2 : (s.toList == [46, 46]) = true := dot2B_list ▸ same_strB (b := dot2B) h2
            have hs : bT s = [46, 46] := by rw [h2]; rfl
            by_cases hL : L = []
            · subst hL
              have HN : Hid (R = ([], 8)) := by
                have := HD.out
                rw [hs, show clStep (some (tl [])) [46, 46] = none by simp [clStep, tl], cl_none] at this
                exact HCN.out this.symm
              clear h0 h1 h2 hs HD
              go_wp2_with fail
              go_ret2
              exact ⟨by rw [HN.out]; rfl, HBW.out⟩
            · obtain ⟨M, z, rfl⟩ := snoc_ofS L hL
              have HN : Hid ((tl (P.drop (i + 1))).foldl clStep (some (tl M)) = (tl P).foldl clStep (some [])) := by
                have := HD.out
                rwa [hs, tl_snoc, show clStep (some (tl M ++ [bT z])) [46, 46] = some (tl M) by simp [clStep]] at this
              have HCUT := Lib.hid (own_cut HOWN.out (m := M.length) (by simp) (by simp))
              rw [sC_take] at HCUT
              have hcap := own_capS HOWN.out
              rw [List.length_append, List.length_singleton] at hcap
              have hcap1 : (M.length : Int) + 1 ≤ (oc : Int) := by omega
              have hcap2 : (M.length : Int) ≤ (oc : Int) := by omega
              have hml : M.length + 1 ≤ i := by have := HLI.out; rw [List.length_append, List.length_singleton] at this; exact this
              have HL2 : Hid (M.length ≤ i + 1) := by show _ ≤ _; omega
              have HZ2 : Hid (∀ y ∈ M, y.size ≤ 4294967296) := fun y hy => HZL.out y (by simp [hy])
              have f3 : ((((M ++ [z]).length : Nat) : Int) == 0) = false := by
                rw [beq_eq_false_iff_ne, List.length_append, List.length_singleton]; omega
              clear h0 h1 h2 hs HD hL
              go_wp2_with fail
              go_roundw
              case rel => exact ⟨i + 1, M, oa, oc, by omega, rfl, by go_num, HCUT, HBR, HN, HL2, HZ2⟩
              case measure => simp [intOf]; omega
          · have f2 : (s.toList == [46, 46]) = false := dot2B_list ▸ other_strB (b := dot2B) h2
            have HN : Hid ((tl (P.drop (i + 1))).foldl clStep (some (tl (L ++ [s]))) = (tl P).foldl clStep (some [])) := by
              have := HD.out
              have a0 : bT s ≠ [] := fun e => h0 (by rw [← bT_length, e]; rfl)
              have a1 : bT s ≠ [46] := fun e => h1 (bT_inj e)
              have a2 : bT s ≠ [46, 46] := fun e => h2 (bT_inj e)
              rwa [show clStep (some (tl L)) (bT s) = some (tl L ++ [bT s]) by simp [clStep, a0, a1, a2], ← tl_snoc] at this
            have hll := HLI.out
            have HL2 : Hid ((L ++ [s]).length ≤ i + 1) := by show _ ≤ _; rw [List.length_append, List.length_singleton]; omega
            have HZ2 : Hid (∀ y ∈ L ++ [s], y.size ≤ 4294967296) := by
              intro y hy
              rcases List.mem_append.1 hy with hy | hy
              · exact HZL.out y hy
              · rw [List.mem_singleton] at hy; subst hy; exact HZ1.out
            have D1 := Lib.hid (cells_new_at wr wr.heap.size rfl #[.string s] 9 (sC s) rfl)
            have D2 : Hid (∀ u ∈ sC s, u.oneCell' = true) := fun u hu => sC_one _ u hu
            have D3 : Hid (L.length + 1 ≤ maxLen) := by show _ ≤ _; unfold maxLen; omega
            have D4 : Hid ((L.length + 1) * 16 ≤ 140737488355328) := by show _ ≤ _; omega
            have D5 : Hid (w1.heap.size ≤ (wr.alloc (.cells #[.string s] 9)).heap.size) := by have := HBR.out.size; show _ ≤ _; simp; omega
            clear h0 h1 h2 HD
            go_wp2_with (at_builtin; refine wpList_append_own _ rfl _ _ 36 rfl w1.heap.size 9 i0 (.string ⟨#[]⟩) 1 16 Tryd.underlying36 hi0 hz0 hz1 hz2 rfl (by decide) _ _ _ rfl (HOWN.out.alloc _) ⟨wr.heap.size, 0, none⟩ 1 1 (sC s) rfl rfl D1.out D2.out D3.out D4.out D5.out ?_)
            intro v' w2 hown' hgrow _
            have BW := Lib.hid (below_own (HBR.out.alloc HBR.out.size (.cells #[.string s] 9)) hgrow D5.out (HOWN.out.alloc _) (Nat.le_refl _))
            obtain ⟨oa3, oc3, rfl⟩ := own_form' hown'
            have OW : Hid (w2.ownsRow w1.heap.size 9 1 (.slice oa3 (L ++ [s]).length oc3) (L ++ [s]).length ((L ++ [s]).flatMap sC)) := by
              show w2.ownsRow _ _ _ _ _ _
              rw [List.length_append, sCs_snoc]
              exact hown'
            clear hown' hgrow
            go_wp2_with fail
            go_roundw
            case rel => exact ⟨i + 1, L ++ [s], oa3, oc3, by omega, by rw [List.length_append]; rfl, by go_num, OW, BW, HN, HL2, HZ2⟩
            case measure => simp [intOf]; omega
    · have m1 : ¬ (i : Int) < (P.length : Int) := by omega
      have HE : Hid (R = joinP ck (tl L)) := by
        have := HF.out
        rw [List.drop_eq_nil_of_le (by omega)] at this
        exact HCS.out _ this.symm
      obtain ⟨a', c', hv, hc1, hc2, hsat⟩ := SAt.own (c := sC) HOWN.out sC_length
      injection hv with e1 e2 e3
      subst e1 e3
      have HS := Lib.hid hsat
      have HJ := Lib.hid (HJN.out oa oc L wr hsat (by omega) hc1 HZL.out (HT.out.below HBW.out))
      clear hsat
      go_wp2_with fail
      refine HJ.out.mono ?_
      rintro e w3 ⟨hb3, rfl⟩
      have HB3 := Lib.hid (Below.step HBW.out hb3)
      clear hb3
      go_wp2_with fail
      go_ret2
      exact ⟨by rw [HE.out]; rfl, HB3.out⟩
end Go.Proofs.YtokckcmkbnhhhaaDoor
