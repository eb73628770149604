/- The walk of move.check. -/
import Derived.Test.YtmdodcpmbhehdaaDoorMoveRec
import Derived.Maps.Views
namespace Go.Proofs.YtmdodcpmbhehdaaDoor
open Go.RowKit Plain Go.Maps
set_option linter.unusedVariables false
set_option linter.unusedSimpArgs false
theorem bmap_putM {D : DataW Unit} (hD : IsMap D) (a b : ByteArray) : litTrue ((D.put (.string a.data.toList) (.lit (.bool true))).atKey (.string b.data.toList) (.lit (.bool false))) ↔ (b = a ∨ litTrue (D.atKey (.string b.data.toList) (.lit (.bool false)))) := by
  by_cases e : b = a
  · subst e
    rw [atKey_put_same hD (by simp [WideAt.IsKeyLit])]
    simp [litTrue]
  · rw [atKey_put_other (by
      intro h
      injection h with h
      exact e (ByteArray.ext (Array.toList_inj.1 h)))]
    exact ⟨.inr, fun h => h.resolve_left e⟩
def OneOk (o : OM) : Prop := chkB o.1 = 0 ∧ (0 ≤ o.2.1 ∧ o.2.1 ≤ 4223371679) ∧ wcode o.2.2.2.2 = 0
/-- what check asks -/
def MvOk (L : List OM) : Prop := L.length ≤ 20 ∧ (∀ o ∈ L, OneOk o) ∧ (L.map (·.1)).Nodup
def McEnd (w0 : World) (L : List OM) (e : Ending) (w : World) : Prop := (∃ c : Int, e = .returned (.int .i64 c) ∧ (c = 0 ↔ MvOk L)) ∧ Below w0.heap.size w0 w
set_option maxRecDepth 100000 in
set_option maxHeartbeats 8000000 in
theorem mcheck_any (a : Option Addr) (cap : Nat) (L : List OM) (m : Int) (w : World) (h : SAt 3 omC w a L) (hl : L.length ≤ 9223372036854775807) (ho : ∀ o ∈ L, OmOk w o) (hm : MaxL m w) (hT : Tabs w) :
    Calls Tryd.prog 38 #[.slice a L.length cap] w (McEnd w L) := by
  have HS := Lib.hid h
  have HO := Lib.hid ho
  have HM := Lib.hid hm
  have HT := Lib.hid hT
  have hmm := @run_makeMap Tryd.prog
  have HOM : Hid (BMap (w.alloc (.map #[] 0)) w.heap.size 0 (.map [])) := World.ownsMap_made (H := Unit) w Tryd.prog 9 (plainElem Tryd.prog 4)
  have HB0 := Lib.hid ((Below.refl w.heap.size w).alloc (Nat.le_refl _) (.map #[] 0))
  clear h ho hm hT
  by_cases h20 : 20 < L.length
  · have f1 : (20 : Int) < (L.length : Int) := by omega
    have HN : Hid (¬ MvOk L) := fun h => by have := h.1; omega
    clear h20 hmm
    go_enter Tryd.func38, Tryd.ntmps38
    go_wp2_with fail
    go_ret
    exact ⟨⟨2, rfl, by simp [HN.out]⟩, Below.refl _ _⟩
  have f1 : ¬ (20 : Int) < (L.length : Int) := by omega
  have h20' : L.length ≤ 20 := by omega
  clear h20
  go_enter Tryd.func38, Tryd.ntmps38
  go_wp2_with fail
  clear hmm
  go_loopw [14] (fun iv wr => ∃ (i n : Nat) (D : DataW Unit), i ≤ L.length ∧ iv = .int .i64 (i : Int) ∧ Hid (n ≤ i) ∧ Hid (BMap wr w.heap.size n D) ∧ Hid (Below w.heap.size w wr) ∧ Hid (IsMap D) ∧ Hid (∀ b : ByteArray, litTrue (D.atKey (.string b.data.toList) (.lit (.bool false))) ↔ b ∈ (L.take i).map (·.1)) ∧ Hid (((L.take i).map (·.1)).Nodup) ∧ Hid (∀ o ∈ L.take i, OneOk o)) (fun iv _ => L.length - (intOf iv).toNat)
  case atStart => exact ⟨0, 0, .map [], by omega, rfl, Lib.hid (Nat.le_refl _), HOM, HB0, Lib.hid isMap_empty, Lib.hid (fun b => by simp [litTrue, DataW.atKey]), Lib.hid (by simp), Lib.hid (by simp)⟩
  case round =>
    obtain ⟨i, n, D, hi, rfl, HNI, HBM, HBR, HDM, HD, HND, HOK⟩ := hrel
    by_cases hlt : i < L.length
    · have m1 : (i : Int) < (L.length : Int) := by omega
      obtain ⟨g, off, rfl, hg, hr⟩ := (HS.out.below HBR.out) i hlt
      have k0 := hr 0 _ rfl
      have k1 := hr 1 _ rfl
      have k2 := hr 2 _ rfl
      simp only [Nat.add_zero] at k0
      have HMEM := Lib.hid (List.getElem_mem hlt)
      have HTK : Hid (L.take (i + 1) = L.take i ++ [L[i]]) := Lib.hid (List.take_succ_eq_append_getElem hlt)
      have HOO := Lib.hid (HO.out _ HMEM.out)
      clear hr hg
      generalize L[i] = o at *
      obtain ⟨nm, tm, wa, wc, l⟩ := o
      simp only [omC] at k0 k1 k2
      have hz := HOO.out.1
      simp only at hz
      have HBA := Lib.hid (HBR.out.alloc HBR.out.size (.cells #[.string nm, .int .i64 tm, .slice wa l.length wc] 57))
      have HRA := Lib.hid (heap_alloc_new wr (.cells #[.string nm, .int .i64 tm, .slice wa l.length wc] 57))
      have HMA := Lib.hid (HBM.out.alloc (.cells #[.string nm, .int .i64 tm, .slice wa l.length wc] 57))
      have HNC := Lib.hid (ncheck_any nm (wr.alloc (.cells #[.string nm, .int .i64 tm, .slice wa l.length wc] 57)) hz (HT.out.below HBA.out))
      clear HBM
      go_wp2_with fail
      refine HNC.out.mono ?_
      rintro e w2 ⟨rfl, hb⟩
      have HB2 := Lib.hid (Below.step HBA.out hb)
      have HM2 := Lib.hid (BMap.of_heap HMA.out (hb.block _ (World.ownsMap.lt HMA.out)))
      have HR2 := Lib.hid ((hb.block _ (lt_of_block HRA.out)).trans HRA.out)
      clear hb HNC HMA HRA HBA k0 k1 k2
      have x1 := cell_of_row _ _ 1 _ _ _ HR2.out
      have x2 := cell_of_row _ _ 2 _ _ _ HR2.out
      simp only [List.getElem?_toArray, List.getElem?_cons_zero, List.getElem?_cons_succ] at x1 x2
      have HWC := Lib.hid (wcheck_any wa wc l m w2 (HOO.out.2.1.below HB2.out) HOO.out.2.2.1 (fun x hx => (HOO.out.2.2.2 x hx).1) (HM.out.below HB2.out) (HT.out.below HB2.out))
      generalize wr.heap.size = B at *
      by_cases hc : chkB nm = 0
      · have HC := Lib.hid hc
        rw [hc]
        clear hc
        by_cases ht0 : tm < 0
        · have HN : Hid (¬ MvOk L) := fun h => by have := (h.2.1 _ HMEM.out).2.1.1; simp only at this; omega
          go_wp2_with fail
          go_ret
          exact ⟨⟨1, rfl, by simp [HN.out]⟩, HB2.out⟩
        by_cases ht1 : 4223371679 < tm
        · have HN : Hid (¬ MvOk L) := fun h => by have := (h.2.1 _ HMEM.out).2.1.2; simp only at this; omega
          go_wp2_with fail
          go_ret
          exact ⟨⟨1, rfl, by simp [HN.out]⟩, HB2.out⟩
        have HTM : Hid (0 ≤ tm ∧ tm ≤ 4223371679) := Lib.hid ⟨by omega, by omega⟩
        go_wp2_with fail
        refine HWC.out.mono ?_
        rintro e w3 ⟨rfl, hb⟩
        have HB3 := Lib.hid (Below.step HB2.out hb)
        have HM3 := Lib.hid (BMap.of_heap HM2.out (hb.block _ (World.ownsMap.lt HM2.out)))
        have HR3 := Lib.hid ((hb.block _ (lt_of_block HR2.out)).trans HR2.out)
        clear hb HWC HM2 HR2 HB2 x1 x2
        have x0 := cell_of_row _ _ 0 _ _ _ HR3.out
        simp only [List.getElem?_toArray, List.getElem?_cons_zero, List.getElem?_cons_succ] at x0
        by_cases hw : wcode l = 0
        · have HW := Lib.hid hw
          rw [hw]
          clear hw
          obtain ⟨b, hlook, hbt⟩ := bk_look HM3.out nm (by have := chk_sizeM HC.out; omega)
          have HBT := Lib.hid hbt
          have HKEY : Hid (keyOf Tryd.prog 9 (.string nm) = some (.string nm.data.toList)) := Go.WideMaps.keyOf_string_mk Tryd.underlying9 (by have := chk_sizeM HC.out; unfold maxLen; omega)
          have HVAL : Hid (plainElem (H := Unit) Tryd.prog 4 (.bool true) = some (.lit (.bool true), [])) := plainElem_bool Tryd.underlying4 _
          have HNM : Hid (n < maxLen) := by have := HNI.out; show _ < _; unfold maxLen; omega
          clear hbt
          cases b with
          | true =>
            have HN : Hid (¬ MvOk L) := fun h => by
              have h1 := (HD.out nm).1 (HBT.out.1 rfl)
              have h4 := h.2.2.sublist ((List.take_sublist (i + 1) L).map (·.1))
              rw [HTK.out, List.map_append, List.nodup_append] at h4
              exact h4.2.2 nm h1 nm (by simp) rfl
            go_wp2_with fail
            go_ret
            exact ⟨⟨10, rfl, by simp [HN.out]⟩, HB3.out⟩
          | false =>
            have HNEW : Hid (nm ∉ (L.take i).map (·.1)) := fun h => by have := HBT.out.2 ((HD.out nm).2 h); cases this
            go_wp2_with (first
              | (at_mapUpdate; refine wpList_mapUpdate_own _ rfl _ _ _ 117 rfl 9 4 law_strB Tryd.underlying117 (plainElem Tryd.prog 4) w.heap.size n D rfl HM3.out HNM.out _ _ _ rfl rfl HKEY.out _ [] HVAL.out ?_; intro w9 hown9 hg9; go_frame)
              | go_in)
            have HM9 := Lib.hid hown9
            have HB9 : Hid (Below w.heap.size w w9) := HB3.out.grown hg9 HB3.out.size (fun j hj => by cases hj; exact Nat.le_refl _)
            clear hown9 hg9
            go_wp2_with fail
            go_roundw
            case rel => exact ⟨i + 1, n + 1, _, by omega, by go_num, Lib.hid (by have := HNI.out; omega), HM9, HB9, Lib.hid (HDM.out.put _ _), Lib.hid (fun c => by rw [bmap_putM HDM.out, HD.out c, HTK.out]; simp [or_comm]), Lib.hid (by
              rw [HTK.out, List.map_append, List.nodup_append]
              exact ⟨HND.out, by simp, fun a ha c hc e => by
                simp at hc
                subst hc
                subst e
                exact HNEW.out ha⟩), Lib.hid (fun o ho => by
              rw [HTK.out] at ho
              rcases List.mem_append.1 ho with ho | ho
              · exact HOK.out o ho
              · rw [List.mem_singleton] at ho; subst ho; exact ⟨HC.out, HTM.out, HW.out⟩)⟩
            case measure => simp [intOf]; omega
        · have HN : Hid (¬ MvOk L) := fun h => hw (h.2.1 _ HMEM.out).2.2
          have f2 : (wcode l != 0) = true := by simpa using hw
          have HWN := Lib.hid hw
          clear hw
          generalize wcode l = wv at *
          go_wp2_with fail
          go_ret
          exact ⟨⟨wv, rfl, by simp [HN.out, HWN.out]⟩, HB3.out⟩
      · have HN : Hid (¬ MvOk L) := fun h => hc (h.2.1 _ HMEM.out).1
        have f2 : (chkB nm != 0) = true := by simpa using hc
        have HCN := Lib.hid hc
        clear hc HWC
        generalize chkB nm = cv at *
        go_wp2_with fail
        go_ret
        exact ⟨⟨cv, rfl, by simp [HN.out, HCN.out]⟩, HB2.out⟩
    · have m1 : ¬ (i : Int) < (L.length : Int) := by omega
      have HALL : Hid (MvOk L) := by
        have h1 := HOK.out
        have h2 := HND.out
        rw [List.take_of_length_le (by omega)] at h1 h2
        exact ⟨h20', h1, h2⟩
      go_wp2_with fail
      go_ret
      exact ⟨⟨0, rfl, by simp [HALL.out]⟩, HBR.out⟩
end Go.Proofs.YtmdodcpmbhehdaaDoor
