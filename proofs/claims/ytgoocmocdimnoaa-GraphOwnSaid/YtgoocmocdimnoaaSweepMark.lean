/- The walk of sweep's mark. -/
import Derived.Test.YtgoocmocdimnoaaSweepFresh
namespace Go.Proofs.Ytgoocmocdimnoaa
open Go.RowKit Plain
set_option linter.unusedVariables false
namespace Plain
/-- the first i things done -/
def upTo (f : Thg → Thg) (ts : List Thg) (i : Nat) : List Thg := (ts.take i).map f ++ ts.drop i
theorem upTo_zero (f : Thg → Thg) (ts : List Thg) : upTo f ts 0 = ts := by simp [upTo]
theorem upTo_all (f : Thg → Thg) (ts : List Thg) (n : Nat) (h : ts.length ≤ n) : upTo f ts n = ts.map f := by simp [upTo, List.take_of_length_le h, List.drop_of_length_le h]
theorem upTo_get (f : Thg → Thg) (ts : List Thg) (i : Nat) (h : i < ts.length) : (upTo f ts i)[i]? = ts[i]? := by
  unfold upTo
  rw [List.getElem?_append_right (by simp; omega), List.getElem?_drop]
  congr 1
  simp
  omega
theorem upTo_set (f : Thg → Thg) (ts : List Thg) (i : Nat) (t : Thg) (h : ts[i]? = some t) : (upTo f ts i).set i (f t) = upTo f ts (i + 1) := by
  obtain ⟨hl, rfl⟩ := List.getElem?_eq_some_iff.1 h
  unfold upTo
  have e : ((ts.take i).map f).length = i := by simp; omega
  rw [List.set_append_right _ _ (by omega), e, Nat.sub_self, List.drop_eq_getElem_cons hl, List.set_cons_zero, List.take_succ_eq_append_getElem hl, List.map_append]
  simp
end Plain
def wh (t : Thg) : Thg := (t.1, 0, t.2.2)
section
variable {base H g n : Nat} {ta : Option Addr} {tc : Nat} {rows : List TRow} {ts : List Thg} {ra : Option Addr} {rc : Nat} {rs : List Int} {bz : Bool} {w w' : World}
theorem OHC.colour (h : OHC base H (some ⟨g, 0, none⟩) tc rows ts ra rc rs bz w) (i : Nat) (t : Thg) (ht : ts[i]? = some t) (c : Int) : OHC base H (some ⟨g, 0, none⟩) tc rows (ts.set i (t.1, c, t.2.2)) ra rc rs bz (w.setCell ⟨g, i * 3 + 1, none⟩ (.int .i64 c)) := by
  obtain ⟨vows, h1, h2, h3⟩ := h
  have hi : i < vows.length := by rw [← tK_length, h3]; exact (List.getElem?_eq_some_iff.1 ht).1
  obtain ⟨v2, k1, k2, k3, _⟩ := h1.col i hi c
  have e : vows[i].2.2 = t := by
    have := tK_get vows i hi
    rw [h3, ht] at this
    injection this with this
    exact this.symm
  refine ⟨v2, k1, k2.trans h2, ?_⟩
  rw [k3, h3, e]
/-- one thing: where its cells lie -/
theorem OHC.at (h : OHC base H ta tc rows ts ra rc rs bz w) (i : Nat) (t : Thg) (ht : ts[i]? = some t) : ∃ g a c, ta = some ⟨g, 0, none⟩ ∧ base ≤ g ∧
    w.cell? ⟨g, i * 3, none⟩ = some (.slice a t.1.length c) ∧ w.cell? ⟨g, i * 3 + 1, none⟩ = some (.int .i64 t.2.1) ∧ w.cell? ⟨g, i * 3 + 2, none⟩ = some (.bool t.2.2) ∧ (∀ j, w.frozen? ⟨g, j, none⟩ = false) ∧ SAt 1 iC w a t.1 := by
  obtain ⟨vows, h1, h2, h3⟩ := h
  have hi : i < vows.length := by rw [← tK_length, h3]; exact (List.getElem?_eq_some_iff.1 ht).1
  have e : vows[i].2.2 = t := by
    have := tK_get vows i hi
    rw [h3, ht] at this
    injection this with this
    exact this.symm
  obtain ⟨g, e1, e2, _, _, c0, c1, c2, hf⟩ := h1.thing i hi _ rfl
  rw [e] at c0 c1 c2
  have hs := (h1.tat.2 vows[i] (List.getElem_mem hi)).1
  rw [e] at hs
  exact ⟨g, _, _, e1, e2, c0, c1, c2, hf, hs⟩
theorem OHC.len (h : OHC base H ta tc rows ts ra rc rs bz w) : ts.length = rows.length := by
  obtain ⟨vows, h1, h2, h3⟩ := h
  rw [← h3, tK_length, sl_len h2]
theorem OHC.x0 (h : OHC base H ta tc rows ts ra rc rs bz w) : w.cell? ⟨H, 0, none⟩ = some (.slice ta rows.length tc) := by
  obtain ⟨vows, h1, h2, h3⟩ := h
  rw [h1.h0, sl_len h2]
theorem OHC.x1 (h : OHC base H ta tc rows ts ra rc rs bz w) : w.cell? ⟨H, 1, none⟩ = some (.slice ra rs.length rc) := by
  obtain ⟨vows, h1, h2, h3⟩ := h
  exact h1.h1
theorem OHC.x2 (h : OHC base H ta tc rows ts ra rc rs bz w) : w.cell? ⟨H, 2, none⟩ = some (.bool bz) := by
  obtain ⟨vows, h1, h2, h3⟩ := h
  exact h1.h2
theorem OHC.fz (h : OHC base H ta tc rows ts ra rc rs bz w) (i : Nat) : w.frozen? ⟨H, i, none⟩ = false := by
  obtain ⟨vows, h1, h2, h3⟩ := h
  exact h1.fz i
theorem OHC.roots (h : OHC base H ta tc rows ts ra rc rs bz w) : SAt 1 iC w ra rs := by
  obtain ⟨vows, h1, h2, h3⟩ := h
  exact h1.roots
theorem OHC.size (h : OHC base H ta tc rows ts ra rc rs bz w) : base ≤ w.heap.size := by
  obtain ⟨vows, h1, h2, h3⟩ := h
  exact h1.size
theorem OHC.h1 (h : OHC base H ta tc rows ts ra rc rs bz w) : base ≤ H := by
  obtain ⟨vows, h1, h2, h3⟩ := h
  exact h1.1
theorem OHC.start (h : OH base H ta tc rows ra rc rs bz w) : OHC base H ta tc rows (tK rows) ra rc rs bz w := ⟨rows, h, rfl, rfl⟩
theorem OHC.below (h : OHC base H ta tc rows ts ra rc rs bz w) (hb : Below w.heap.size w w') : OHC base H ta tc rows ts ra rc rs bz w' := by
  obtain ⟨vows, h1, h2, h3⟩ := h
  exact ⟨vows, h1.below hb, h2, h3⟩
theorem OHC.busy (h : OHC base H ta tc rows ts ra rc rs bz w) (b' : Bool) : OHC base H ta tc rows ts ra rc rs b' (w.setCell ⟨H, 2, none⟩ (.bool b')) := by
  obtain ⟨vows, h1, h2, h3⟩ := h
  exact ⟨vows, h1.busy b', h2, h3⟩
/-- the heap's things, whatever their slices -/
def OHT (base H : Nat) (ta : Option Addr) (tc n : Nat) (ts : List Thg) (ra : Option Addr) (rc : Nat) (rs : List Int) (bz : Bool) (w : World) : Prop := ∃ vows, OH base H ta tc vows ra rc rs bz w ∧ vows.length = n ∧ tK vows = ts
theorem OHT.ohc (h : OHT base H ta tc n ts ra rc rs bz w) : ∃ vows, vows.length = n ∧ OHC base H ta tc vows ts ra rc rs bz w := by
  obtain ⟨vows, h1, h2, h3⟩ := h
  exact ⟨vows, h2, vows, h1, rfl, h3⟩
theorem OHC.oht (h : OHC base H ta tc rows ts ra rc rs bz w) : OHT base H ta tc rows.length ts ra rc rs bz w := by
  obtain ⟨vows, h1, h2, h3⟩ := h
  exact ⟨vows, h1, sl_len h2, h3⟩
theorem OHT.put (h : OHT base H (some ⟨g, 0, none⟩) tc n ts ra rc rs bz w) (i : Nat) (hi : i < n) (f : Bool) : OHT base H (some ⟨g, 0, none⟩) tc n (ts.set i ([], 0, f)) ra rc rs bz (w.setCells g (i * 3) [.slice none 0 0, .int .i64 0, .bool f]) := by
  obtain ⟨vows, h1, h2, h3⟩ := h
  exact ⟨_, h1.put i (by omega) f, by rw [List.length_set]; exact h2, by rw [tK_set, h3]⟩
theorem OHC.there (h : OHC base H (some ⟨g, 0, none⟩) tc rows ts ra rc rs bz w) (i : Nat) (hi : i < rows.length) : w.there g (i * 3) 3 := by
  obtain ⟨vows, h1, h2, h3⟩ := h
  exact h1.there i (by rw [sl_len h2]; exact hi)
end
def MkEnd (base H : Nat) (g : Hp) (w0 : World) (e : Ending) (w : World) : Prop := e = .returned (.tuple #[]) ∧ Below base w0 w ∧ ∃ ta tc rows ra rc rs bz, OH base H ta tc rows ra rc rs bz w ∧ g = (tK rows, rs, bz)
theorem paint_set {ts : List Thg} {k : Nat} {t : Thg} (h : ts[k]? = some t) (c : Int) : paint ts (k : Int) c = ts.set k (t.1, c, t.2.2) := by
  unfold paint
  rw [Int.toNat_natCast, h]
set_option maxRecDepth 100000 in
set_option maxHeartbeats 2000000 in
theorem mark_idle (base H : Nat) (ta : Option Addr) (tc : Nat) (rows : List TRow) (ra : Option Addr) (rc : Nat) (rs : List Int) (w : World) (h : OH base H ta tc rows ra rc rs false w) (hok : HOk (tK rows, rs, false)) :
    Calls Try.prog 55 #[.pointer (some ⟨H, 0, none⟩)] w (MkEnd base H (markF (tK rows, rs, false)) w) := by
  have h40 : rows.length ≤ 40 := by have := hok.1; rwa [show (tK rows, rs, false).1 = tK rows from rfl, tK_length] at this
  have h64 : rs.length ≤ 64 := hok.2.1
  have HRT : Hid (∀ k ∈ rs, 0 ≤ k ∧ k.toNat < rows.length) := fun k hk => by
    have := hok.gok.2.2 k hk
    rw [show (kidsOf (tK rows)).length = rows.length by simp [kidsOf, tK]] at this
    exact ⟨this.1, by omega⟩
  have HLN := Lib.hid (tK_length rows)
  have HO := Lib.hid (OHC.start h)
  have HOB := Lib.hid (HO.out.busy true)
  have HMF : Hid (markF (tK rows, rs, false) = (rs.foldl (fun ts k => paint ts k 1) ((tK rows).map wh), rs, true)) := rfl
  have hB := HO.out.h1
  have HB0 : Hid (Below base w (w.setCell ⟨H, 2, none⟩ (.bool true))) := (Below.refl base w).setCell (p := ⟨H, 2, none⟩) hB _
  have a0 := HO.out.x0
  have a2 := HO.out.x2
  have af := HO.out.fz 2
  have b0 := HOB.out.x0
  clear h hok
  go_enter Try.func55, Try.ntmps55
  go_wp2_with fail
  go_loopw [26] (fun iv wr => ∃ i : Nat, i ≤ rows.length ∧ iv = .int .i64 (i : Int) ∧ Below base w wr ∧ OHC base H ta tc rows (upTo wh (tK rows) i) ra rc rs true wr) (fun iv _ => rows.length - (intOf iv).toNat)
  case atStart => exact ⟨0, by omega, rfl, HB0.out, by rw [upTo_zero]; exact HOB.out⟩
  case round =>
    obtain ⟨i, hi, rfl, hbr, ho⟩ := hrel
    have HBR := Lib.hid hbr
    have HOR := Lib.hid ho
    clear hbr ho HOB HB0 a0 a2 af b0 HO
    by_cases hlt : i < rows.length
    · have m1 : (i : Int) < (rows.length : Int) := by omega
      have m0 : (0 : Int) ≤ (i : Int) := Int.natCast_nonneg _
      have HTK : Hid ((tK rows)[i]? = some rows[i].2.2) := tK_get rows i hlt
      generalize rows[i].2.2 = t at *
      have HPG : Hid ((upTo wh (tK rows) i)[i]? = some t) := by show _ = _; rw [upTo_get _ _ _ (by rw [HLN.out]; exact hlt)]; exact HTK.out
      have HPS := Lib.hid (upTo_set wh (tK rows) i t HTK.out)
      obtain ⟨g, a, c, rfl, hg, c0, c1, c2, hf, _⟩ := HOR.out.at i t HPG.out
      have x0 := HOR.out.x0
      have f1 := hf (i * 3 + 1)
      have HN := Lib.hid (HOR.out.colour i t HPG.out 0)
      rw [show ((t.1, (0 : Int), t.2.2) : Thg) = wh t from rfl, HPS.out] at HN
      have HB' := Lib.hid (HBR.out.setCell (p := ⟨g, i * 3 + 1, none⟩) hg (.int .i64 0))
      clear hf c0 c2
      go_wp2_with fail
      go_roundw
      case rel => exact ⟨i + 1, by omega, by go_num, HB'.out, HN.out⟩
      case measure => simp [intOf]; omega
    · have m1 : ¬ (i : Int) < (rows.length : Int) := by omega
      have HOW : Hid (OHC base H ta tc rows ((tK rows).map wh) ra rc rs true wr) := by
        have := HOR.out
        rwa [upTo_all _ _ _ (by rw [HLN.out]; omega)] at this
      have x1 := HOW.out.x1
      obtain ⟨wo, rfl⟩ : ∃ wo : World, wo = wr := ⟨_, rfl⟩
      go_wp2_with fail
      go_loopw [44] (fun iv wr => ∃ j : Nat, j ≤ rs.length ∧ iv = .int .i64 (j : Int) ∧ Below base w wr ∧ OHC base H ta tc rows ((rs.take j).foldl (fun ts k => paint ts k 1) ((tK rows).map wh)) ra rc rs true wr) (fun iv _ => rs.length - (intOf iv).toNat)
      case atStart => exact ⟨0, by omega, rfl, HBR.out, HOW.out⟩
      case round =>
        obtain ⟨j, hj, rfl, hbr, ho⟩ := hrel
        have HBR2 := Lib.hid hbr
        have HOR2 := Lib.hid ho
        clear hbr ho
        by_cases hlt2 : j < rs.length
        · have m2 : (j : Int) < (rs.length : Int) := by omega
          obtain ⟨gr, off, rfl, _, hrc⟩ := HOR2.out.roots.int j hlt2
          have HTQ : Hid (rs.take (j + 1) = rs.take j ++ [rs[j]]) := List.take_succ_eq_append_getElem hlt2
          have hkk := HRT.out rs[j] (List.getElem_mem hlt2)
          generalize rs[j] = k at *
          obtain ⟨kn, rfl⟩ := Int.eq_ofNat_of_zero_le hkk.1
          have hk1 : kn < rows.length := by simpa using hkk.2
          have hlen := HOR2.out.len
          obtain ⟨t, ht⟩ : ∃ t, ((rs.take j).foldl (fun ts k => paint ts k 1) ((tK rows).map wh))[kn]? = some t := ⟨_, List.getElem?_eq_getElem (by omega)⟩
          have HQ : Hid ((rs.take (j + 1)).foldl (fun ts k => paint ts k 1) ((tK rows).map wh) = ((rs.take j).foldl (fun ts k => paint ts k 1) ((tK rows).map wh)).set kn (t.1, 1, t.2.2)) := by
            show _ = _
            rw [HTQ.out, List.foldl_append]
            show paint _ _ _ = _
            exact paint_set ht 1
          obtain ⟨g, a, c, rfl, hg, c0, c1, c2, hf, _⟩ := HOR2.out.at kn t ht
          have x0 := HOR2.out.x0
          have f1 := hf (kn * 3 + 1)
          have HN := Lib.hid (HOR2.out.colour kn t ht 1)
          rw [← HQ.out] at HN
          have HB' := Lib.hid (HBR2.out.setCell (p := ⟨g, kn * 3 + 1, none⟩) hg (.int .i64 1))
          have m3 : (kn : Int) < (rows.length : Int) := by omega
          have m4 : (0 : Int) ≤ (kn : Int) := Int.natCast_nonneg _
          clear hf c0 c2 ht hlen hkk
          go_wp2_with fail
          go_roundw
          case rel => exact ⟨j + 1, by omega, by go_num, HB'.out, HN.out⟩
          case measure => simp [intOf]; omega
        · have m2 : ¬ (j : Int) < (rs.length : Int) := by omega
          have HF : Hid (OHC base H ta tc rows (rs.foldl (fun ts k => paint ts k 1) ((tK rows).map wh)) ra rc rs true wr) := by
            have := HOR2.out
            rwa [List.take_of_length_le (by omega)] at this
          go_wp2_with fail
          go_end0
          obtain ⟨vows, v1, v2, v3⟩ := HF.out
          exact ⟨rfl, HBR2.out, _, _, _, _, _, _, _, v1, by rw [HMF.out, v3]⟩
end Go.Proofs.Ytgoocmocdimnoaa
