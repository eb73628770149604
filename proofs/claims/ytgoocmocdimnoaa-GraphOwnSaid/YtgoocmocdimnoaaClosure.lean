/- The walks of graph.Closure and Reach. -/
import Derived.Test.YtgoocmocdimnoaaGraphW
import Derived.Test.YtgoocmocdimnoaaAppendSat
namespace Go.Proofs.Ytgoocmocdimnoaa
open Go.RowKit Plain
/-- truth values in a row -/
def oC (o : List Bool) : Array Value := (o.map Value.bool).toArray
theorem oC_get (o : List Bool) (i : Nat) (h : i < o.length) : (oC o)[i]? = some (.bool (o.getD i false)) := by
  simp [oC, List.getD_eq_getElem?_getD, List.getElem?_eq_getElem h]
theorem oC_set (o : List Bool) (i : Nat) (b : Bool) : (oC o).setIfInBounds i (.bool b) = oC (o.set i b) := by
  simp [oC]
theorem info_bool : (Try.prog.info? 4).map (fun i => (i.zero, i.size, i.bytes)) = some (some (.bool false), 1, 1) := by kernel_rfl
theorem info_int : (Try.prog.info? 3).map (fun i => (i.zero, i.size, i.bytes)) = some (some (.int .i64 0), 1, 8) := by kernel_rfl
set_option maxRecDepth 100000 in
theorem run_make_bools (n : Nat) (hn : n ≤ 1048576) (u : World) : (Instr.makeSlice 24 (.int .i64 (n : Int)) (.int .i64 (n : Int))).run Try.prog u = .ok (.slice (some ⟨u.heap.size, 0, none⟩) n n) (u.alloc (.cells (oC (List.replicate n false)) 4)) := by
  obtain ⟨i, hi, hz, hs, hb⟩ := info_parts info_bool
  have := run_make (P := Try.prog) u 24 4 i (.bool false) Try.underlying24 hi hz .i64 .i64 (n : Int) (n : Int) (by omega) (Int.le_refl _) (by rw [hb]; omega) (by omega)
  rw [this, hs, Int.toNat_natCast]
  congr 3
  simp only [madeCells, Nat.mul_one]
  apply Array.ext
  · simp [oC]
  · intro k h1 h2
    simp [Value.cells, oC, Nat.mod_one]
/-- how many cells of a block hold false -/
def fls (w : World) (B : Nat) : Nat := match w.heap[B]? with
  | some (.cells cs _ _) => cs.toList.countP fun v => match v with
    | .bool b => !b
    | _ => false
  | _ => 0
theorem fls_row {w : World} {B : Nat} {o : List Bool} {t : TypeId} (h : w.heap[B]? = some (.cells (oC o) t (0, 0))) : fls w B = falses o := by
  unfold fls falses
  rw [h]
  show ((o.map Value.bool).toArray.toList).countP _ = _
  rw [List.toList_toArray, List.countP_map]
  rfl
def lenOf : Value → Nat
  | .slice _ n _ => n
  | _ => 0
theorem iC_one (n : Int) : ∀ u ∈ iC n, u.oneCell' = true := by
  intro u hu
  simp only [iC, List.mem_singleton] at hu
  subst hu
  rfl
theorem iC_take (st : List Int) (k : Int) : ((st ++ [k]).flatMap iC).take (st.length * 1) = st.flatMap iC := by
  rw [List.flatMap_append, List.take_append_of_le_length (by rw [flat_length iC_length]; exact Nat.le_refl _)]
  exact List.take_of_length_le (by rw [flat_length iC_length]; exact Nat.le_refl _)
theorem snoc_of {α : Type} (l : List α) (h : l ≠ []) : ∃ m t, l = m ++ [t] := ⟨l.dropLast, l.getLast h, (List.dropLast_concat_getLast h).symm⟩
theorem own_is {w : World} {base : Nat} {t : TypeId} {k n c : Nat} {a : Option Addr} {xs : List Value} (h : w.ownsRow base t k (.slice a n c) n xs) (hn : 0 < n) : ∃ g, a = some ⟨g, 0, none⟩ := by
  rcases h.2 with ⟨_, h0⟩ | ⟨g, cap, cur, hv, _⟩
  · omega
  · injection hv with hv
    exact ⟨g, hv⟩
theorem own_cap {w : World} {base : Nat} {t : TypeId} {k n c : Nat} {a : Option Addr} {xs : List Value} (h : w.ownsRow base t k (.slice a n c) n xs) : n ≤ c ∧ c ≤ 9223372036854775807 := by
  rcases h.2 with ⟨hv, h0⟩ | ⟨g, cap, cur, hv, _, _, h1, h2, _⟩
  · injection hv with _ _ hv
    omega
  · injection hv with _ _ hv
    unfold maxLen at h2
    omega
theorem own_neq {w : World} {base : Nat} {t t' : TypeId} {k n g : Nat} {v : Value} {xs : List Value} {cs : Array Value} (h : w.ownsRow base t k v n xs) (hg : w.heap[g]? = some (.cells cs t' (0, 0))) (ht : t ≠ t') : some g ≠ v.ownBlock := by
  rcases h.2 with ⟨rfl, _⟩ | ⟨g', cap, cur, rfl, _, hh, _⟩
  · simp [Value.ownBlock]
  · intro he
    have : g = g' := by simpa [Value.ownBlock] using he
    subst this
    rw [hh] at hg
    injection hg with hg
    injection hg with _ hg
    exact ht hg
/-- a store into a row of another type -/
theorem own_store {w : World} {base : Nat} {t t' : TypeId} {k n g : Nat} {v : Value} {xs : List Value} {cs : Array Value} (h : w.ownsRow base t k v n xs) (hg : w.heap[g]? = some (.cells cs t' (0, 0))) (ht : t ≠ t') (i : Nat) (u : Value) : (w.setCell ⟨g, i, none⟩ u).ownsRow base t k v n xs := by
  have hne := own_neq h hg ht
  refine ⟨h.1, ?_⟩
  rcases h.2 with h0 | ⟨g', cap, cur, rfl, hb, hh, hr⟩
  · exact .inl h0
  · exact .inr ⟨g', cap, cur, rfl, hb, (heap_setCell_other w ⟨g, i, none⟩ g' u (fun e => hne (by simp [Value.ownBlock]; exact e.symm))).trans hh, hr⟩
/-- what Closure leaves -/
def ClEnd (w0 : World) (ks : List (List Int)) (rs : List Int) (e : Ending) (w : World) : Prop := Below w0.heap.size w0 w ∧ ∃ g o, e = .returned (.slice (some ⟨g, 0, none⟩) ks.length ks.length) ∧ w0.heap.size ≤ g ∧ g < w.heap.size ∧ w.heap[g]? = some (.cells (oC o) 4 (0, 0)) ∧ GSpec ks rs o
set_option maxRecDepth 100000 in
set_option maxHeartbeats 2000000 in
theorem closure_any (a b : Option Addr) (cap cb : Nat) (rows : List GRow) (rs : List Int) (w : World) (h : GAt w a rows) (hr : SAt 1 iC w b rs) (hg : Gok (gK rows)) (hro : Rok (gK rows) rs) :
    Calls Try.prog 38 #[.slice a rows.length cap, .slice b rs.length cb] w (ClEnd w (gK rows) rs) := by
  obtain ⟨i0, hi0, hz0, hz1, hz2⟩ := info_parts info_int
  have HG := Lib.hid h
  have HRS := Lib.hid hr
  have HGO := Lib.hid hg
  have hn200 : rows.length ≤ 200 := by have := hg.1; rwa [gK_length] at this
  have hrl : rs.length ≤ 64 := hro.1
  have HST := Lib.hid (CI.start hg hro)
  have HLN := Lib.hid (gK_length rows)
  rw [gK_length] at HST
  have HMK := Lib.hid (run_make_bools rows.length (by omega))
  have hmk := HMK.out
  clear h hr hg hro
  have HB0 := Lib.hid (Below.alloc (Below.refl w.heap.size w) (Nat.le_refl _) (.cells (oC (List.replicate rows.length false)) 4))
  have HR0 := Lib.hid (heap_alloc_new w (.cells (oC (List.replicate rows.length false)) 4))
  have D3 : Hid (0 + rs.length ≤ maxLen) := by show _ ≤ _; unfold maxLen; omega
  have D4 : Hid ((0 + rs.length) * 8 ≤ 140737488355328) := by show _ ≤ _; omega
  have D5 : Hid (w.heap.size ≤ (w.alloc (.cells (oC (List.replicate rows.length false)) 4)).heap.size) := by show _ ≤ _; simp
  have HRS1 := Lib.hid (HRS.out.below HB0.out)
  go_enter Try.func38, Try.ntmps38
  go_wp2_with (at_builtin; refine wpList_append_sat rfl _ _ 23 rfl w.heap.size 3 i0 (.int .i64 0) 1 8 Try.underlying23 hi0 hz0 hz1 hz2 rfl (by decide) (.slice none 0 0) 0 [] rfl (World.ownsRow_nil _ _ _ _) b cb rs rfl HRS1.out iC_length iC_one D3.out D4.out D5.out ?_)
  intro v' w1 hown' hgrow
  have HB1 := Lib.hid (HB0.out.grown hgrow D5.out (by simp [Value.ownBlock]))
  have HR1 := Lib.hid ((hgrow.block w.heap.size (by simp) (by simp [Value.ownBlock])).trans HR0.out)
  obtain ⟨sa, sc, rfl⟩ : ∃ a c, v' = .slice a rs.length c := by
    rcases hown'.2 with ⟨rfl, h0⟩ | ⟨g, cap, cur, rfl, _⟩
    · exact ⟨none, 0, by rw [h0]⟩
    · exact ⟨_, cap, rfl⟩
  have HO1 := Lib.hid hown'
  clear hown' hgrow HB0 HR0 hmk
  go_wp2_with fail
  go_loopw [6] (fun sv wr => ∃ (o : List Bool) (st : List Int) (sa : Option Addr) (sc : Nat), sv = .slice sa st.length sc ∧ wr.ownsRow w.heap.size 3 1 (.slice sa st.length sc) st.length (st.flatMap iC) ∧ Below w.heap.size w wr ∧ wr.heap[w.heap.size]? = some (.cells (oC o) 4 (0, 0)) ∧ CI (gK rows) rs o st) (fun sv wr => lenOf sv + 65 * fls wr w.heap.size)
  case atStart => exact ⟨_, rs, sa, sc, rfl, HO1.out, HB1.out, HR1.out, HST.out⟩
  case round =>
    obtain ⟨o, st, sa, sc, rfl, hown, hbr, hrow, hci⟩ := hrel
    have HOWN := Lib.hid hown
    have HBR := Lib.hid hbr
    have HROW := Lib.hid hrow
    have HCI := Lib.hid hci
    have HFL := Lib.hid (fls_row hrow)
    clear HO1 HB1 HR1 HST hown hbr hrow hci
    have hBw : w.heap.size ≤ wr.heap.size := HBR.out.size
    by_cases h0 : st = []
    · subst h0
      have HD := Lib.hid HCI.out.done
      go_wp2_with fail
      go_ret
      exact ⟨HBR.out, w.heap.size, o, by rw [HLN.out]; rfl, Nat.le_refl _, lt_of_block HROW.out, HROW.out, HD.out⟩
    · obtain ⟨st, k, rfl⟩ := snoc_of st h0
      obtain ⟨hk0, hk1, _⟩ := HCI.out.2.1 k (by simp)
      obtain ⟨kn, rfl⟩ := Int.eq_ofNat_of_zero_le hk0
      rw [HLN.out] at hk1
      have hol := HCI.out.1
      rw [HLN.out] at hol
      have hsl := HCI.out.2.2.2.2.2
      rw [List.length_append, List.length_singleton] at hsl
      obtain ⟨g, rfl⟩ := own_is HOWN.out (by simp)
      have HCUT := Lib.hid (own_cut HOWN.out (m := st.length) (by simp) (by simp))
      rw [iC_take] at HCUT
      have hkc : wr.cell? ⟨g, st.length, none⟩ = some (.int .i64 (kn : Int)) := by
        rw [HOWN.out.cellAt st.length (by simp), List.flatMap_append, List.getElem?_append_right (by rw [flat_length iC_length]; omega), flat_length iC_length]
        simp [iC]
      have hbc := cell_of_row wr w.heap.size kn _ _ _ HROW.out
      rw [oC_get o kn (by omega)] at hbc
      have hfb := frozen_of_row wr w.heap.size kn _ _ HROW.out
      have hcap := own_cap HOWN.out
      rw [List.length_append, List.length_singleton] at hcap
      have hcap1 : (st.length : Int) + 1 ≤ (sc : Int) := by omega
      have hcap2 : (st.length : Int) ≤ (sc : Int) := by omega
      have m2 : (kn : Int) < (rows.length : Int) := by omega
      have HLNS : Hid ((st ++ [(kn : Int)]).length = st.length + 1) := by show _ = _; simp
      clear h0 hk0 hk1
      cases hq : o.getD kn false with
      | true =>
        rw [hq] at hbc
        have HS := Lib.hid (HCI.out.seen (by rw [Int.toNat_natCast]; exact hq))
        clear hq
        go_wp2_with fail
        go_roundw
        case rel => exact ⟨o, st, some ⟨g, 0, none⟩, sc, rfl, HCUT.out, HBR.out, HROW.out, HS.out⟩
        case measure => simp [lenOf]
      | false =>
        rw [hq] at hbc
        have HN := Lib.hid (HCI.out.new HGO.out (by rw [Int.toNat_natCast]; exact hq))
        have HFS := Lib.hid (falses_set o kn (by omega) hq)
        obtain ⟨g2, off2, rfl, hg2, hr2, hsr, hrl2⟩ := ((HG.out.below HBR.out).row kn (by omega))
        have hkl := (HGO.out.row kn).1
        have HKD := Lib.hid (gK_getD rows kn (by omega))
        rw [Int.toNat_natCast, HKD.out] at HN
        rw [HKD.out] at hkl
        have HSR0 := Lib.hid (HG.out.2 _ (List.getElem_mem (show kn < rows.length by omega))).1
        generalize rows[kn] = r at *
        obtain ⟨ra, rc, row⟩ := r
        have hg3 : g2 < w.heap.size := by
          obtain ⟨g', off', e', hg', _⟩ := HG.out.1 kn (by omega)
          injection e' with e'
          injection e' with e1 _ _
          subst e1
          exact hg'
        have hr3 : wr.cell? ⟨g2, off2 + kn, none⟩ = some (.slice ra row.length rc) := hr2
        have HROW2 := Lib.hid (heap_setCell_same wr w.heap.size kn _ 4 (.bool true) HROW.out)
        rw [oC_set] at HROW2
        have HOW2 := Lib.hid (own_store HCUT.out HROW.out (by decide) kn (.bool true))
        have HBW2 := Lib.hid (HBR.out.setCell (p := ⟨w.heap.size, kn, none⟩) (Nat.le_refl _) (.bool true))
        have HSR := Lib.hid (HSR0.out.below HBW2.out)
        have hrow64 : row.length ≤ 64 := hkl
        have D3 : Hid (st.length + row.length ≤ maxLen) := by show _ ≤ _; unfold maxLen; omega
        have D4 : Hid ((st.length + row.length) * 8 ≤ 140737488355328) := by show _ ≤ _; omega
        have D5 : Hid (w.heap.size ≤ (wr.setCell ⟨w.heap.size, kn, none⟩ (.bool true)).heap.size) := HBW2.out.size
        clear hq hr2 hsr hg2
        go_wp2_with (at_builtin; refine wpList_append_sat rfl _ _ 23 rfl w.heap.size 3 i0 (.int .i64 0) 1 8 Try.underlying23 hi0 hz0 hz1 hz2 rfl (by decide) _ st.length (st.flatMap iC) rfl HOW2.out ra rc row rfl HSR.out iC_length iC_one D3.out D4.out D5.out ?_)
        intro v' w2 hown' hgrow
        have BW := Lib.hid (below_own HBW2.out hgrow HBW2.out.size HOW2.out (Nat.le_refl _))
        have R2 := Lib.hid ((hgrow.block w.heap.size (lt_of_block HROW2.out) (own_neq HOW2.out HROW2.out (by decide))).trans HROW2.out)
        obtain ⟨sa2, sc2, rfl⟩ : ∃ a c, v' = .slice a (st.length + row.length) c := by
          rcases hown'.2 with ⟨rfl, h0⟩ | ⟨g, cap, cur, rfl, _⟩
          · exact ⟨none, 0, by rw [h0]⟩
          · exact ⟨_, cap, rfl⟩
        have OW : Hid (w2.ownsRow w.heap.size 3 1 (.slice sa2 (st ++ row).length sc2) (st ++ row).length ((st ++ row).flatMap iC)) := by
          show w2.ownsRow _ _ _ _ _ _
          rw [List.length_append, List.flatMap_append]
          exact hown'
        have HF2 := Lib.hid (fls_row R2.out)
        clear hown' hgrow
        go_wp2_with fail
        go_roundw
        case rel => exact ⟨o.set kn true, st ++ row, sa2, sc2, by rw [List.length_append], OW.out, BW.out, R2.out, HN.out⟩
        case measure =>
          have h1 := HF2.out
          have h2 := HFL.out
          have h3 := HFS.out
          have h4 := HLNS.out
          simp only [lenOf]
          rw [h1, h2]
          omega
end Go.Proofs.Ytgoocmocdimnoaa
