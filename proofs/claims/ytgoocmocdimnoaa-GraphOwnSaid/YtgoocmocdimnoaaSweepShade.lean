/- The walks of sweep's shade and isLive. -/
import Derived.Test.YtgoocmocdimnoaaSweepOwn
namespace Go.Proofs.Ytgoocmocdimnoaa
open Go.RowKit Plain
set_option linter.unusedVariables false
/-- the heap with other things of the same slices -/
def OHC (base H : Nat) (ta : Option Addr) (tc : Nat) (rows : List TRow) (ts : List Thg) (ra : Option Addr) (rc : Nat) (rs : List Int) (bz : Bool) (w : World) : Prop := ∃ vows, OH base H ta tc vows ra rc rs bz w ∧ sl vows = sl rows ∧ tK vows = ts
def ShEnd (base H : Nat) (ta : Option Addr) (tc : Nat) (rows : List TRow) (ts : List Thg) (ra : Option Addr) (rc : Nat) (rs : List Int) (bz : Bool) (w0 : World) (e : Ending) (w : World) : Prop := e = .returned (.tuple #[]) ∧ OHC base H ta tc rows ts ra rc rs bz w ∧ Below base w0 w
set_option maxRecDepth 100000 in
set_option maxHeartbeats 1000000 in
theorem shade_any (base H : Nat) (ta : Option Addr) (tc : Nat) (rows : List TRow) (ra : Option Addr) (rc : Nat) (rs : List Int) (bz : Bool) (k : Nat) (w : World) (h : OH base H ta tc rows ra rc rs bz w) (hk : k < rows.length) (hr : rows.length ≤ 1000) :
    Calls Try.prog 58 #[.pointer (some ⟨H, 0, none⟩), .int .i64 (k : Int)] w (ShEnd base H ta tc rows (shade bz (tK rows) (k : Int)) ra rc rs bz w) := by
  obtain ⟨g, rfl, hg1, hg2, hgH, c0, c1, c2, hf⟩ := h.thing k hk _ rfl
  have m0 : (0 : Int) ≤ (k : Int) := Int.natCast_nonneg _
  have m1 : (k : Int) < (rows.length : Int) := by omega
  have HSH : Hid (shade bz (tK rows) (k : Int) = if (bz && rows[k].2.2.2.1 == 0) = true then (tK rows).set k (rows[k].2.2.1, 1, rows[k].2.2.2.2) else tK rows) := by
    show _ = _
    unfold shade
    rw [Int.toNat_natCast, tK_get rows k hk]
  have HO := Lib.hid h
  have HCOL := Lib.hid (h.col k hk 1)
  have x0 := h.h0
  have x2 := h.h2
  have hfk := hf (k * 3 + 1)
  have HB : Hid (Below base w (w.setCell ⟨g, k * 3 + 1, none⟩ (.int .i64 1))) := (Below.refl base w).setCell (p := ⟨g, k * 3 + 1, none⟩) hg1 _
  clear h hf c0 c2
  generalize hR : rows[k] = r at *
  cases bz with
  | false =>
    go_enter Try.func58, Try.ntmps58
    go_wp2_with fail
    go_end0
    exact ⟨rfl, ⟨rows, HO.out, rfl, by rw [HSH.out]; rfl⟩, Below.refl _ _⟩
  | true =>
    by_cases hc : r.2.2.2.1 = 0
    · have HE : Hid (shade true (tK rows) (k : Int) = (tK rows).set k (r.2.2.1, 1, r.2.2.2.2)) := by
        show _ = _
        rw [HSH.out, if_pos (by rw [hc]; rfl)]
      rw [hc] at c1
      clear hc
      go_enter Try.func58, Try.ntmps58
      go_wp2_with fail
      go_end0
      obtain ⟨vows, v1, v2, v3, _⟩ := HCOL.out
      exact ⟨rfl, ⟨vows, v1, v2, by rw [HE.out]; exact v3⟩, HB.out⟩
    · have HE : Hid (shade true (tK rows) (k : Int) = tK rows) := by
        show _ = _
        rw [HSH.out, if_neg (by simpa using hc)]
      have hc2 : (r.2.2.2.1 == 0) = false := by simpa using hc
      go_enter Try.func58, Try.ntmps58
      go_wp2_with fail
      go_end0
      exact ⟨rfl, ⟨rows, HO.out, rfl, HE.out.symm⟩, Below.refl _ _⟩
def ILEnd (h : Hp) (k : Int) (w0 : World) (e : Ending) (w : World) : Prop := ∃ r : Bool, e = .returned (.bool r) ∧ (r = true ↔ Lv h k) ∧ Below w0.heap.size w0 w
set_option maxRecDepth 100000 in
set_option maxHeartbeats 1000000 in
theorem isLive_any (base H : Nat) (ta : Option Addr) (tc : Nat) (rows : List TRow) (ra : Option Addr) (rc : Nat) (rs : List Int) (bz : Bool) (k : Int) (w : World) (h : OH base H ta tc rows ra rc rs bz w) (hok : HOk (tK rows, rs, bz)) :
    Calls Try.prog 57 #[.pointer (some ⟨H, 0, none⟩), .int .i64 k] w (ILEnd (tK rows, rs, bz) k w) := by
  have HLV := Lib.hid (live_any ta tc rows ra rc rs bz w h.tat h.roots hok)
  have h40 : rows.length ≤ 40 := by have := hok.1; rwa [show (tK rows, rs, bz).1 = tK rows from rfl, tK_length] at this
  have HLT : Hid (∀ i : Nat, Rch (kidsOf (tK rows)) rs i → i < rows.length) := fun i hi => by
    have := hi.lt hok.gok.1 hok.gok.2
    rwa [show (kidsOf (tK rows)).length = rows.length by simp [kidsOf, tK]] at this
  have x0 := h.h0
  have x1 := h.h1
  have x2 := h.h2
  clear h hok
  by_cases h0 : k < 0
  · have HR : Hid (¬ Lv (tK rows, rs, bz) k) := fun h => by have := h.1; omega
    go_enter Try.func57, Try.ntmps57
    go_wp2_with fail
    go_ret
    exact ⟨false, rfl, ⟨(fun h => by cases h), fun h => absurd h HR.out⟩, Below.refl _ _⟩
  · obtain ⟨kn, rfl⟩ := Int.eq_ofNat_of_zero_le (show 0 ≤ k by omega)
    have m0 : (0 : Int) ≤ (kn : Int) := Int.natCast_nonneg _
    by_cases h1 : kn < rows.length
    · have m1 : (kn : Int) < (rows.length : Int) := by omega
      go_enter Try.func57, Try.ntmps57
      go_wp2_with fail
      refine HLV.out.mono ?_
      rintro e w2 ⟨hb2, g, o, rfl, hg1, hg2, hrow, hsp⟩
      have hkl : (kidsOf (tK rows)).length = rows.length := by simp [kidsOf, tK]
      rw [hkl]
      have hol : o.length = rows.length := by rw [hsp.1, hkl]
      have hcl := cell_of_row w2 g kn _ _ _ hrow
      rw [oC_get o kn (by omega)] at hcl
      have HB2 := Lib.hid hb2
      have HSP := Lib.hid (hsp.2 kn)
      generalize o.getD kn false = q at *
      clear hb2 hrow hsp hkl hol hg1 hg2
      go_wp2_with fail
      go_ret
      exact ⟨q, rfl, ⟨fun h => ⟨m0, by rw [Int.toNat_natCast]; exact HSP.out.1 h⟩, fun h => HSP.out.2 (by have := h.2; rwa [Int.toNat_natCast] at this)⟩, HB2.out⟩
    · have m1 : ¬ (kn : Int) < (rows.length : Int) := by omega
      have HR : Hid (¬ Lv (tK rows, rs, bz) (kn : Int)) := fun h => by
        have := h.2
        rw [Int.toNat_natCast] at this
        exact h1 (HLT.out kn this)
      go_enter Try.func57, Try.ntmps57
      go_wp2_with fail
      go_ret
      exact ⟨false, rfl, ⟨(fun h => by cases h), fun h => absurd h HR.out⟩, Below.refl _ _⟩
end Go.Proofs.Ytgoocmocdimnoaa
