/- The walk of lumref.SameOlds at equal lists. -/
import Derived.Test.YtmdodcpmbhehdaaDoorItemsEq
import Derived.Test.YtmdodcpmbhehdaaDoorMoveOpen
namespace Go.Proofs.YtmdodcpmbhehdaaDoor
open Go.RowKit Plain Go.Maps
set_option linter.unusedVariables false
set_option linter.unusedSimpArgs false
/-- the same old snapshot, its items elsewhere -/
def SameO (o p : OM) : Prop := o.1 = p.1 ∧ o.2.1 = p.2.1 ∧ o.2.2.2.2 = p.2.2.2.2
set_option maxRecDepth 100000 in
set_option maxHeartbeats 4000000 in
theorem same1_any (o p : OM) (w : World) (h : SameO o p) (ho : OmOk w o) (hp : OmOk w p) :
    Calls Tryd.prog 43 #[.agg (omC o).toArray, .agg (omC p).toArray] w fun e w' => e = .returned (.bool true) ∧ Below w.heap.size w w' := by
  obtain ⟨nm, tm, wa, wc, l⟩ := o
  obtain ⟨nm2, tm2, wa2, wc2, l2⟩ := p
  obtain ⟨h1, h2, h3⟩ := h
  simp only at h1 h2 h3
  subst h1 h2 h3
  have HO := Lib.hid ho
  have HP := Lib.hid hp
  have HEQ := Lib.hid fun u (hb : Below w.heap.size w u) => eqIts_any wa wa2 wc wc2 l l u (ho.2.1.below hb) (hp.2.1.below hb) ho.2.2.1 hp.2.2.1
  unfold omC
  simp only
  clear ho hp
  have f1 : (nm.toList == nm.toList) = true := by simp
  go_enter Tryd.func43, Tryd.ntmps43
  go_wp2_with fail
  have HB := Lib.hid (((Below.refl w.heap.size w).alloc (Nat.le_refl _) (.cells #[.string nm, .int .i64 tm, .slice wa l.length wc] 57)).alloc (by simp) (.cells #[.string nm, .int .i64 tm, .slice wa2 l.length wc2] 57))
  refine (HEQ.out _ HB.out).mono ?_
  rintro e w2 ⟨⟨r, rfl, hr⟩, hb⟩
  have hr1 : r = true := hr.2 rfl
  subst hr1
  have HB2 := Lib.hid (Below.step HB.out hb)
  clear hb hr HEQ
  go_wp2_with fail
  go_ret
  exact ⟨rfl, HB2.out⟩
set_option maxRecDepth 100000 in
set_option maxHeartbeats 4000000 in
theorem eqOlds_any (a b : Option Addr) (ca cb : Nat) (L M : List OM) (w : World) (hl : SAt 3 omC w a L) (hm : SAt 3 omC w b M) (ho : ∀ o ∈ L, OmOk w o) (hp : ∀ o ∈ M, OmOk w o) (hn : L.length = M.length) (hz : L.length ≤ 20) (hs : ∀ (i : Nat) (h : i < L.length) (h' : i < M.length), SameO L[i] M[i]) :
    Calls Tryd.prog 42 #[.slice a L.length ca, .slice b M.length cb, .func (.func 43) #[] #[]] w fun e w' => e = .returned (.bool true) ∧ Below w.heap.size w w' := by
  have HL := Lib.hid hl
  have HM := Lib.hid hm
  have HO := Lib.hid ho
  have HP := Lib.hid hp
  have HS := Lib.hid hs
  have HN := Lib.hid hn
  rw [← hn]
  clear hl hm ho hp hs hn
  go_enter Tryd.func42, Tryd.ntmps42
  go_wp2_with fail
  go_loopw [17] (fun iv wr => ∃ i : Nat, i ≤ L.length ∧ iv = .int .i64 (i : Int) ∧ Hid (Below w.heap.size w wr)) (fun iv _ => L.length - (intOf iv).toNat)
  case atStart => exact ⟨0, by omega, rfl, Lib.hid (Below.refl _ _)⟩
  case round =>
    obtain ⟨i, hi, rfl, HBR⟩ := hrel
    have m0 : (0 : Int) ≤ (i : Int) := Int.natCast_nonneg _
    by_cases hlt : i < L.length
    · have m1 : (i : Int) < (L.length : Int) := by omega
      have hlm : i < M.length := by have := HN.out; omega
      obtain ⟨g, off, rfl, hg, hr⟩ := (HL.out.below HBR.out) i hlt
      have HAL := Lib.hid ((Below.refl wr.heap.size wr).alloc (Nat.le_refl _) (.cells (omC L[i]).toArray 57))
      have HBA := Lib.hid (Below.step HBR.out HAL.out)
      obtain ⟨g2, off2, rfl, hg2, hr2⟩ := (HM.out.below HBA.out) i hlm
      have k0 := hr 0 _ rfl
      have k1 := hr 1 _ rfl
      have k2 := hr 2 _ rfl
      have j0 := hr2 0 _ rfl
      have j1 := hr2 1 _ rfl
      have j2 := hr2 2 _ rfl
      simp only [Nat.add_zero] at k0 j0
      have HO1 := Lib.hid (HO.out _ (List.getElem_mem hlt))
      have HP1 := Lib.hid (HP.out _ (List.getElem_mem hlm))
      have HS1 := Lib.hid (HS.out i hlt hlm)
      clear hr hr2 hg hg2
      generalize L[i] = o at *
      generalize M[i] = p at *
      obtain ⟨nm, tm, wa, wc, l⟩ := o
      obtain ⟨nm2, tm2, wa2, wc2, l2⟩ := p
      simp only [omC] at k0 k1 k2 j0 j1 j2 HAL HBA
      have HAB := Lib.hid (HAL.out.alloc HAL.out.size (.cells #[.string nm2, .int .i64 tm2, .slice wa2 l2.length wc2] 57))
      have HB2 := Lib.hid (Below.step HBR.out HAB.out)
      have HC := Lib.hid (same1_any _ _ _ HS1.out (HO1.out.below HB2.out) (HP1.out.below HB2.out))
      simp only [omC] at HC
      go_wp2_with fail
      refine HC.out.mono ?_
      rintro e w3 ⟨rfl, hb⟩
      have HB3 := Lib.hid (Below.step HB2.out hb)
      clear hb HC
      go_wp2_with fail
      go_roundw
      case rel => exact ⟨i + 1, by omega, by go_num, HB3⟩
      case measure => simp [intOf]; omega
    · have m1 : ¬ (i : Int) < (L.length : Int) := by omega
      go_wp2_with fail
      go_ret
      exact ⟨rfl, HBR.out⟩
set_option maxRecDepth 100000 in
theorem sameOlds_any (a b : Option Addr) (ca cb : Nat) (L M : List OM) (w : World) (hl : SAt 3 omC w a L) (hm : SAt 3 omC w b M) (ho : ∀ o ∈ L, OmOk w o) (hp : ∀ o ∈ M, OmOk w o) (hn : L.length = M.length) (hz : L.length ≤ 20) (hs : ∀ (i : Nat) (h : i < L.length) (h' : i < M.length), SameO L[i] M[i]) :
    Calls Tryd.prog 21 #[.slice a L.length ca, .slice b M.length cb] w fun e w' => e = .returned (.bool true) ∧ Below w.heap.size w w' := by
  have HE := Lib.hid (eqOlds_any a b ca cb L M w hl hm ho hp hn hz hs)
  clear hl hm ho hp hs hn
  go_enter Tryd.func21, Tryd.ntmps21
  go_wp2_with fail
  refine HE.out.mono ?_
  rintro e w1 ⟨rfl, hb⟩
  have HB := Lib.hid hb
  clear hb HE
  go_wp2_with fail
  go_ret
  exact ⟨rfl, HB.out⟩
end Go.Proofs.YtmdodcpmbhehdaaDoor
