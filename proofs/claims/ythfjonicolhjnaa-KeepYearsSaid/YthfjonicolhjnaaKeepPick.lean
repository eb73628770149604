/- The walk of keep.Pick: which times are kept. Printed by wip/gen_pick.py. -/
import Derived.Test.YthfjonicolhjnaaKeepW
import Derived.Laws.EntriesVeiled
namespace Go.Proofs.Ythfjonicolhjnaa
open Go.RowKit Plain Go.ChangeMaps
def FJ (p : Pol) (l : List Int) : Nat → List Bool
  | 0 => lastL p.last l.length
  | 1 => kGo p.days spD l 0 [] (lastL p.last l.length)
  | 2 => kGo p.weeks spW l 0 [] (kGo p.days spD l 0 [] (lastL p.last l.length))
  | 3 => kGo p.months spM l 0 [] (kGo p.weeks spW l 0 [] (kGo p.days spD l 0 [] (lastL p.last l.length)))
  | _ => pickL p l
def f1 (n : Int) : KK := (n, 0)
def f2 (n : Int) : KK := (wkY n, wkW n)
def f3 (n : Int) : KK := (dY n, dM n)
def f4 (n : Int) : KK := (dY n, 0)
def rulesRow (p2 p3 p4 p5 : Int) : Array Value := #[.int .i64 p2, .func (.func 37) #[] #[], .int .i64 p3, .func (.func 38) #[] #[], .int .i64 p4, .func (.func 39) #[] #[], .int .i64 p5, .func (.func 40) #[] #[]]
/-- what the loop over the times stands on: the answer's row, the rules' row, the rule's own, the map -/
def KS (w0 w : World) (O R S M : Nat) (rc sc : Array Value) (ob : List Bool) (ks : List KK) : Prop :=
  Below w0.heap.size w0 w ∧ w.heap[O]? = some (.cells (oC ob) 4 (0, 0)) ∧ w.heap[R]? = some (.cells rc 73 (0, 0)) ∧ w.heap[S]? = some (.cells sc 73 (0, 0)) ∧ w.heap[M]? = some (mO ks) ∧ w0.heap.size ≤ O ∧ w0.heap.size ≤ M
section
variable {w0 w w' : World} {O R S M : Nat} {rc sc : Array Value} {ob : List Bool} {ks : List KK}
theorem KS.below (h : KS w0 w O R S M rc sc ob ks) (hb : Below w.heap.size w w') : KS w0 w' O R S M rc sc ob ks := by
  obtain ⟨h1, h2, h3, h4, h5, h6, h7⟩ := h
  exact ⟨Below.step h1 hb, (hb.block _ (lt_of_block h2)).trans h2, (hb.block _ (lt_of_block h3)).trans h3, (hb.block _ (lt_of_block h4)).trans h4, (hb.block _ (lt_of_block h5)).trans h5, h6, h7⟩
theorem KS.alloc (h : KS w0 w O R S M rc sc ob ks) (o : Obj) : KS w0 (w.alloc o) O R S M rc sc ob ks := h.below ((Below.refl _ _).alloc (Nat.le_refl _) o)
theorem KS.setM (h : KS w0 w O R S M rc sc ob ks) (k : KK) : KS w0 (setBlock w M (mO (ks ++ [k]))) O R S M rc sc ob (ks ++ [k]) := by
  obtain ⟨h1, h2, h3, h4, h5, h6, h7⟩ := h
  have n : ∀ {B : Nat} {cs : Array Value} {t : TypeId}, w.heap[B]? = some (.cells cs t (0, 0)) → B ≠ M := by
    rintro B cs t hb rfl
    rw [h5] at hb
    simp [mO] at hb
  exact ⟨below_setBlock h1 h7 _, (setBlock_other _ (n h2)).trans h2, (setBlock_other _ (n h3)).trans h3, (setBlock_other _ (n h4)).trans h4, setBlock_same h5 _, h6, h7⟩
theorem KS.setO (h : KS w0 w O R S M rc sc ob ks) (i : Nat) : KS w0 (w.setCell ⟨O, i, none⟩ (.bool true)) O R S M rc sc (ob.set i true) ks := by
  obtain ⟨h1, h2, h3, h4, h5, h6, h7⟩ := h
  have n : ∀ {B : Nat} {cs : Array Value}, w.heap[B]? = some (.cells cs 73 (0, 0)) → B ≠ O := by
    rintro B cs hb rfl
    rw [h2] at hb
    injection hb with hb
    injection hb with _ hb _
    exact absurd hb (by decide)
  have nM : M ≠ O := by
    rintro rfl
    rw [h2] at h5
    simp [mO] at h5
  have hs := heap_setCell_same w O i _ _ (.bool true) h2
  rw [oC_set] at hs
  exact ⟨h1.setCell h6 _, hs, (heap_setCell_other w _ _ _ (n h3)).trans h3, (heap_setCell_other w _ _ _ (n h4)).trans h4, (heap_setCell_other w _ _ _ nM).trans h5, h6, h7⟩
theorem KS.start (h1 : Below w0.heap.size w0 w) (h2 : w.heap[O]? = some (.cells (oC ob) 4 (0, 0))) (h3 : w.heap[R]? = some (.cells rc 73 (0, 0))) (h6 : w0.heap.size ≤ O) (sc : Array Value) :
    KS w0 ((w.alloc (.cells sc 73)).alloc (.map #[] 0)) O R w.heap.size (w.heap.size + 1) rc sc ob [] := by
  have hb : Below w.heap.size w ((w.alloc (.cells sc 73)).alloc (.map #[] 0)) := ((Below.refl _ _).alloc (Nat.le_refl _) _).alloc (by simp) _
  refine ⟨Below.step h1 hb, (hb.block _ (lt_of_block h2)).trans h2, (hb.block _ (lt_of_block h3)).trans h3, ?_, ?_, h6, by have := h1.size; omega⟩
  · exact (Below.heap_alloc (w.alloc (.cells sc 73)) (.map #[] 0) w.heap.size (by simp)).trans (heap_alloc_new w _)
  · exact heap_alloc2 w _ _
end
theorem lastL_zero (n : Nat) : lastL 0 n = List.replicate n false := by
  apply List.ext_getElem
  · simp [lastL]
  · intro i h1 h2
    simp [lastL]
theorem lastL_set (k n : Nat) (h : k < n) : (lastL (k : Int) n).set k true = lastL ((k : Int) + 1) n := by
  apply List.ext_getElem
  · simp [lastL]
  · intro i h1 h2
    rw [List.getElem_set]
    split
    · subst_vars
      simp only [lastL, List.getElem_map, List.getElem_range]
      exact (decide_eq_true (by omega)).symm
    · simp only [lastL, List.getElem_map, List.getElem_range, decide_eq_decide]
      omega
theorem lastL_min (p : Int) (n : Nat) : lastL (min p (n : Int)) n = lastL p n := by
  apply List.ext_getElem
  · simp [lastL]
  · intro i h1 h2
    simp only [lastL, List.getElem_map, List.getElem_range, decide_eq_decide]
    have : i < n := by simpa [lastL] using h1
    omega
/-- what Pick leaves -/
def PickEnd (w0 : World) (p : Pol) (l : List Int) (e : Ending) (w : World) : Prop := Below w0.heap.size w0 w ∧
  ((¬ (pOK p ∧ tOK l) ∧ ∃ c : Int, c ≠ 0 ∧ e = .returned (.tuple #[.slice none 0 0, .int .i64 c])) ∨
   ((pOK p ∧ tOK l) ∧ ∃ g, e = .returned (.tuple #[.slice (some ⟨g, 0, none⟩) l.length l.length, .int .i64 0]) ∧ SAt 1 bC w (some ⟨g, 0, none⟩) (pickL p l)))
theorem pol_cells {w : World} {B : Nat} {p1 p2 p3 p4 p5 : Int} {t : TypeId} (h : w.heap[B]? = some (.cells #[.int .i64 p1, .int .i64 p2, .int .i64 p3, .int .i64 p4, .int .i64 p5] t (0, 0))) :
    w.cell? ⟨B, 0, none⟩ = some (.int .i64 p1) ∧ w.cell? ⟨B, 1, none⟩ = some (.int .i64 p2) ∧ w.cell? ⟨B, 2, none⟩ = some (.int .i64 p3) ∧ w.cell? ⟨B, 3, none⟩ = some (.int .i64 p4) ∧ w.cell? ⟨B, 4, none⟩ = some (.int .i64 p5) :=
  ⟨cell_of_row _ _ 0 _ _ _ h, cell_of_row _ _ 1 _ _ _ h, cell_of_row _ _ 2 _ _ _ h, cell_of_row _ _ 3 _ _ _ h, cell_of_row _ _ 4 _ _ _ h⟩
theorem tOK_snoc {l : List Int} {i : Nat} (hi : i < l.length) (h : tOK (l.take i)) (h2 : l.length ≤ 200) (h0 : 0 ≤ l[i]) (h1 : l[i] ≤ 4223371679) (hp : ∀ h : 0 < i, l[i] ≤ l[i - 1]'(by omega)) : tOK (l.take (i + 1)) := by
  rw [List.take_succ_eq_append_getElem hi]
  refine ⟨by simp; omega, ?_, ?_⟩
  · intro t ht
    rcases List.mem_append.1 ht with ht | ht
    · exact h.2.1 t ht
    · rw [List.mem_singleton] at ht; subst ht; exact ⟨h0, h1⟩
  · rw [List.pairwise_append]
    refine ⟨h.2.2, by simp, ?_⟩
    intro x hx y hy
    rw [List.mem_singleton] at hy; subst hy
    by_cases hi0 : 0 < i
    · have := hp hi0
      have hd : l.take i = l.take (i - 1) ++ [l[i - 1]'(by omega)] := by
        rw [← List.take_succ_eq_append_getElem (by omega)]; congr 1; omega
      rw [hd] at hx
      rcases List.mem_append.1 hx with hx | hx
      · have h3 := h.2.2
        rw [hd, List.pairwise_append] at h3
        have := h3.2.2 x hx _ (List.mem_singleton.2 rfl)
        omega
      · rw [List.mem_singleton] at hx; subst hx; exact this
    · have : i = 0 := by omega
      subst this
      simp at hx
set_option maxRecDepth 100000 in
set_option maxHeartbeats 2000000 in
theorem pick_any (p1 p2 p3 p4 p5 : Int) (sa : Option Addr) (cap : Nat) (l : List Int) (w : World) (hs : SAt 1 iC w sa l) (hl : l.length ≤ 9223372036854775807) :
    Calls Try.prog 23 #[.agg #[.int .i64 p1, .int .i64 p2, .int .i64 p3, .int .i64 p4, .int .i64 p5], .slice sa l.length cap] w (PickEnd w ⟨p1, p2, p3, p4, p5⟩ l) := by
  have HSA := Lib.hid hs
  have HCK := Lib.hid kcheck_any
  have HRU := Lib.hid rules_any
  have HC1 : Hid (∀ n w, -719162 ≤ n → n ≤ 2932896 → Calls Try.prog 37 #[.int .i64 n] w fun r w' => r = .returned (.agg #[.int .i64 (f1 n).1, .int .i64 (f1 n).2]) ∧ Below w.heap.size w w') := rule1_any
  have HC2 : Hid (∀ n w, -719162 ≤ n → n ≤ 2932896 → Calls Try.prog 38 #[.int .i64 n] w fun r w' => r = .returned (.agg #[.int .i64 (f2 n).1, .int .i64 (f2 n).2]) ∧ Below w.heap.size w w') := rule2_any
  have HC3 : Hid (∀ n w, -719162 ≤ n → n ≤ 2932896 → Calls Try.prog 39 #[.int .i64 n] w fun r w' => r = .returned (.agg #[.int .i64 (f3 n).1, .int .i64 (f3 n).2]) ∧ Below w.heap.size w w') := rule3_any
  have HC4 : Hid (∀ n w, -719162 ≤ n → n ≤ 2932896 → Calls Try.prog 40 #[.int .i64 n] w fun r w' => r = .returned (.agg #[.int .i64 (f4 n).1, .int .i64 (f4 n).2]) ∧ Below w.heap.size w w') := rule4_any
  have HB0 : Hid (Below w.heap.size w (w.alloc (.cells #[.int .i64 p1, .int .i64 p2, .int .i64 p3, .int .i64 p4, .int .i64 p5] 48))) := (Below.refl _ _).alloc (Nat.le_refl _) _
  have HP0 : Hid ((w.alloc (.cells #[.int .i64 p1, .int .i64 p2, .int .i64 p3, .int .i64 p4, .int .i64 p5] 48)).heap[w.heap.size]? = some (.cells #[.int .i64 p1, .int .i64 p2, .int .i64 p3, .int .i64 p4, .int .i64 p5] 48 (0, 0))) := heap_alloc_new w _
  clear hs
  go_enter Try.func23, Try.ntmps23
  go_wp2_with fail
  generalize w.alloc (.cells #[.int .i64 p1, .int .i64 p2, .int .i64 p3, .int .i64 p4, .int .i64 p5] 48) = wa at *
  refine (HCK.out p1 p2 p3 p4 p5 _).mono ?_
  rintro e w2 ⟨hb2, hq⟩
  have HB2 := Lib.hid (Below.step HB0.out hb2)
  have HP2 := Lib.hid ((hb2.block _ (lt_of_block HP0.out)).trans HP0.out)
  clear hb2 HB0 HP0
  rcases hq with ⟨hok, rfl⟩ | ⟨hno, rfl⟩
  rotate_left
  · have HNO := Lib.hid hno
    go_wp2_with fail
    go_ret2
    exact ⟨HB2.out, .inl ⟨fun h => HNO.out h.1, 1, by decide, rfl⟩⟩
  have HOK := Lib.hid hok
  clear hok
  by_cases h200 : l.length ≤ 200
  rotate_left
  · have m1 : (200 : Int) < (l.length : Int) := by omega
    go_wp2_with fail
    go_ret2
    exact ⟨HB2.out, .inl ⟨fun h => h200 h.2.1, 2, by decide, rfl⟩⟩
  have m1 : ¬ (200 : Int) < (l.length : Int) := by omega
  go_wp2_with fail
  go_loopw [27] (fun iv wr => ∃ i : Nat, i ≤ l.length ∧ iv = .int .i64 (i : Int) ∧ wr = w2 ∧ Hid (tOK (l.take i))) (fun iv _ => l.length - (intOf iv).toNat)
  case atStart => exact ⟨0, by omega, rfl, rfl, Lib.hid (by simp [tOK])⟩
  case round =>
    obtain ⟨i, hi, rfl, rfl, HT⟩ := hrel
    by_cases hlt : i < l.length
    · have m2 : (i : Int) < (l.length : Int) := by omega
      obtain ⟨g, off, rfl, hg, hr⟩ := (HSA.out.below HB2.out).int i hlt
      have HNN : Hid (tOK l → 0 ≤ l[i] ∧ l[i] ≤ 4223371679) := fun h => h.2.1 _ (List.getElem_mem hlt)
      by_cases h0 : i = 0
      · subst h0
        have HTT : Hid (0 ≤ l[0] → l[0] ≤ 4223371679 → tOK (l.take (0 + 1))) := fun h0 h1 => tOK_snoc hlt HT.out h200 h0 h1 (fun h => by omega)
        rw [Nat.add_zero] at hr
        generalize l[0] = t at *
        clear hg
        by_cases c1 : t < 0
        · go_wp2_with fail
          go_ret2
          exact ⟨HB2.out, .inl ⟨fun h => by have := HNN.out h.2; omega, 1, by decide, rfl⟩⟩
        · by_cases c2 : 4223371679 < t
          · go_wp2_with fail
            go_ret2
            exact ⟨HB2.out, .inl ⟨fun h => by have := HNN.out h.2; omega, 1, by decide, rfl⟩⟩
          · go_wp2_with fail
            go_roundw
            case rel => exact ⟨1, by omega, by go_num, trivial, Lib.hid (HTT.out (by omega) (by omega))⟩
            case measure => simp [intOf]; omega
      · obtain ⟨k, rfl⟩ : ∃ k, i = k + 1 := ⟨i - 1, by omega⟩
        obtain ⟨g', off', e', hg', hr'⟩ := (HSA.out.below HB2.out).int k (by omega)
        injection e' with e'
        injection e' with e1 e2 _
        subst e1 e2
        have HTT : Hid (0 ≤ l[k + 1] → l[k + 1] ≤ 4223371679 → l[k + 1] ≤ l[k] → tOK (l.take (k + 1 + 1))) := fun h0 h1 hp => tOK_snoc hlt HT.out h200 h0 h1 (fun _ => hp)
        have HNP : Hid (tOK l → l[k + 1] ≤ l[k]) := fun h => List.pairwise_iff_getElem.1 h.2.2 k (k + 1) (by omega) hlt (by omega)
        have m3 : (k : Int) < (l.length : Int) := by omega
        have m4 : (0 : Int) < (k : Int) + 1 := by omega
        have m5 : IntKind.i64.wrap ((k : Int) + 1 - 1) = (k : Int) := by rw [Int.add_sub_cancel]; exact wraps_i64 _ (by omega) (by omega)
        have m6 : (0 : Int) ≤ (k : Int) := by omega
        generalize l[k + 1] = t at *
        generalize l[k] = u at *
        clear hg hg'
        by_cases c1 : t < 0
        · go_wp2_with fail
          go_ret2
          exact ⟨HB2.out, .inl ⟨fun h => by have := HNN.out h.2; omega, 1, by decide, rfl⟩⟩
        · by_cases c2 : 4223371679 < t
          · go_wp2_with fail
            go_ret2
            exact ⟨HB2.out, .inl ⟨fun h => by have := HNN.out h.2; omega, 1, by decide, rfl⟩⟩
          · by_cases c3 : u < t
            · go_wp2_with fail
              go_ret2
              exact ⟨HB2.out, .inl ⟨fun h => by have := HNP.out h.2; omega, 4, by decide, rfl⟩⟩
            · go_wp2_with fail
              go_roundw
              case rel => exact ⟨k + 1 + 1, by omega, by go_num, trivial, Lib.hid (HTT.out (by omega) (by omega) (by omega))⟩
              case measure => simp [intOf]; omega
    · have m2 : ¬ (i : Int) < (l.length : Int) := by omega
      have HTO : Hid (tOK l) := by have := HT.out; rwa [List.take_of_length_le (by omega)] at this
      obtain ⟨w3, rfl⟩ : ∃ w3 : World, w3 = wr := ⟨_, rfl⟩
      have HMK := Lib.hid (run_make_bools l.length (by omega))
      have hmk := HMK.out
      have HB3 := Lib.hid (HB2.out.alloc HB2.out.size (.cells (oC (List.replicate l.length false)) 4))
      have HO3 := Lib.hid (heap_alloc_new w3 (.cells (oC (List.replicate l.length false)) 4))
      have HP3 := Lib.hid ((Below.heap_alloc w3 (.cells (oC (List.replicate l.length false)) 4) _ (lt_of_block HP2.out)).trans HP2.out)
      have hcp := cell_of_row _ _ 0 _ _ _ HP3.out
      simp only [List.getElem?_toArray, List.getElem?_cons_zero] at hcp
      go_wp2_with fail
      have HB4 := HB3
      go_loopw [58] (fun iv wr => ∃ i : Nat, i ≤ l.length ∧ ((i : Int) ≤ min p1 (l.length : Int) ∨ i = 0) ∧ iv = .int .i64 (i : Int) ∧ Hid (Below w.heap.size w wr) ∧ Hid (wr.heap[w3.heap.size]? = some (.cells (oC (lastL (i : Int) l.length)) 4 (0, 0))) ∧ Hid (wr.heap[w.heap.size]? = some (.cells #[.int .i64 p1, .int .i64 p2, .int .i64 p3, .int .i64 p4, .int .i64 p5] 48 (0, 0)))) (fun iv _ => l.length - (intOf iv).toNat)
      case atStart => exact ⟨0, by omega, .inr rfl, rfl, HB3, Lib.hid (by rw [show ((0 : Nat) : Int) = 0 from rfl, lastL_zero]; exact HO3.out), HP3⟩
      case round =>
        obtain ⟨i', hi', hmn, rfl, HBR, HOR, HPR⟩ := hrel
        by_cases hlt' : (i' : Int) < min p1 (l.length : Int)
        · have hi2 : i' < l.length := by omega
          have hbc := cell_of_row _ w3.heap.size i' _ _ _ HOR.out
          rw [oC_get _ i' (by rw [lastL_length]; exact hi2)] at hbc
          have hfb := frozen_of_row _ w3.heap.size i' _ _ HOR.out
          have m3 : (i' : Int) < (l.length : Int) := by omega
          have HS := Lib.hid (heap_setCell_same _ w3.heap.size i' _ _ (.bool true) HOR.out)
          rw [oC_set, lastL_set _ _ hi2] at HS
          have HBB := Lib.hid (HBR.out.setCell (p := ⟨w3.heap.size, i', none⟩) HB2.out.size (.bool true))
          have HPP := Lib.hid ((heap_setCell_other wr ⟨w3.heap.size, i', none⟩ w.heap.size (.bool true) (by have := lt_of_block HP2.out; show w.heap.size ≠ w3.heap.size; omega)).trans HPR.out)
          go_wp2_with fail
          go_roundw
          case rel => exact ⟨i' + 1, by omega, .inl (by omega), by go_num, HBB, Lib.hid (by rw [Int.natCast_add]; exact HS.out), HPP⟩
          case measure => simp [intOf]; omega
        · have HOE : Hid (wr.heap[w3.heap.size]? = some (.cells (oC (lastL p1 l.length)) 4 (0, 0))) := by
            have h : lastL (i' : Int) l.length = lastL p1 l.length := by
              rw [← lastL_min p1]
              rcases hmn with h | h
              · congr 1; omega
              · subst h
                apply List.ext_getElem
                · simp [lastL]
                · intro j h1 h2
                  simp only [lastL, List.getElem_map, List.getElem_range, decide_eq_decide]
                  omega
            have := HOR.out
            rwa [h] at this
          have HOS : w.heap.size ≤ w3.heap.size := HB2.out.size
          have HOB := Lib.hid HOS
          have ⟨x1, x2, x3, x4, x5⟩ := pol_cells HPR.out
          go_wp2_with fail
          clear x1 x2 x3 x4 x5
          refine (HRU.out p1 p2 p3 p4 p5 _).mono ?_
          rintro e w4 ⟨R, rfl, hR, hb4, hrow⟩
          have HB4 := Lib.hid (Below.step HBR.out hb4)
          have HO4 := Lib.hid ((hb4.block _ (lt_of_block HOE.out)).trans HOE.out)
          have HR4 : Hid (w4.heap[R]? = some (.cells (rulesRow p2 p3 p4 p5) 73 (0, 0))) := hrow
          clear hb4 hrow hR
          clear HO3 HOR HP3 hcp HP2 HPR HMK hmk
          generalize w3.heap.size = O at *
          generalize hrc : rulesRow p2 p3 p4 p5 = rc at *
          go_wp2_with fail
          go_loopw [68] (fun iv wr => ∃ (j : Int) (out : List Bool), (0 ≤ j ∧ j ≤ 4) ∧ iv = .int .i64 j ∧ Hid (Below w.heap.size w wr) ∧ Hid (wr.heap[O]? = some (.cells (oC out) 4 (0, 0))) ∧ Hid (wr.heap[R]? = some (.cells rc 73 (0, 0))) ∧ Hid (out = FJ ⟨p1, p2, p3, p4, p5⟩ l j.toNat)) (fun iv _ => 4 - (intOf iv).toNat)
          case atStart => exact ⟨0, _, by omega, rfl, HB4, HO4, HR4, Lib.hid rfl⟩
          case round =>
            obtain ⟨j, out, hj, rfl, HBR, HO, HR, HOUT⟩ := hrel
            obtain rfl | rfl | rfl | rfl | rfl : j = 4 ∨ j = 0 ∨ j = 1 ∨ j = 2 ∨ j = 3 := by omega
            · have HE : Hid (out = pickL ⟨p1, p2, p3, p4, p5⟩ l) := HOUT.out
              go_wp2_with fail
              go_ret2
              refine ⟨HBR.out, .inr ⟨⟨HOK.out, HTO.out⟩, O, rfl, ?_⟩⟩
              have := HO.out
              rw [HE.out] at this
              exact sat_oC this
            · -- rule 1
              obtain rfl : out = lastL p1 l.length := HOUT.out
              obtain ⟨wo, rfl⟩ : ∃ wo : World, wo = wr := ⟨_, rfl⟩
              have hc0 := cell_of_row wo R 0 _ _ _ HR.out
              have hc1 := cell_of_row wo R 1 _ _ _ HR.out
              simp only [← hrc, rulesRow, List.getElem?_toArray, List.getElem?_cons_succ, List.getElem?_cons_zero] at hc0 hc1
              have hmm := @run_makeMap Try.prog
              have HS0 : Hid (KS w (wo.alloc (.cells #[.int .i64 p2, .func (.func 37) #[] #[]] 73) |>.alloc (.map #[] 0)) O R wo.heap.size (wo.heap.size + 1) rc #[.int .i64 p2, .func (.func 37) #[] #[]] (lastL p1 l.length) []) := KS.start HBR.out HO.out HR.out HOB.out _
              go_wp2_with fail
              go_loopw [75] (fun iv wr' => ∃ (i : Nat) (seen : List KK) (out : List Bool), i ≤ l.length ∧ iv = .int .i64 (i : Int) ∧ Hid (KS w wr' O R wo.heap.size (wo.heap.size + 1) rc #[.int .i64 p2, .func (.func 37) #[] #[]] out seen) ∧ Hid (out.length = l.length) ∧ Hid (kGo p2 spD (l.drop i) i seen out = kGo p2 spD l 0 [] (lastL p1 l.length))) (fun iv _ => l.length - (intOf iv).toNat)
              case atStart => exact ⟨0, [], _, by omega, rfl, HS0, Lib.hid (by simp [lastL_length]), Lib.hid (by rw [List.drop_zero])⟩
              case round =>
                obtain ⟨i, seen, out, hi, rfl, HK, HOL, HG⟩ := hrel
                by_cases hlt : i < l.length
                · have m1 : (i : Int) < (l.length : Int) := by omega
                  obtain ⟨g, off, rfl, hg, hr⟩ := (HSA.out.below HK.out.1).int i hlt
                  have HT := Lib.hid (HTO.out.2.1 _ (List.getElem_mem hlt))
                  have HG2 : Hid (kGo p2 spD (l[i] :: l.drop (i + 1)) i seen out = kGo p2 spD l 0 [] (lastL p1 l.length)) := by
                    show _ = _
                    rw [← List.drop_eq_getElem_cons hlt]; exact HG.out
                  have hcs0 := cell_of_row _ _ 0 _ _ _ HK.out.2.2.2.1
                  have hcs1 := cell_of_row _ _ 1 _ _ _ HK.out.2.2.2.1
                  simp only [List.getElem?_toArray, List.getElem?_cons_succ, List.getElem?_cons_zero] at hcs0 hcs1
                  have hdv : Hid (0 ≤ l[i] ∧ l[i] ≤ 4223371679) := HT
                  clear hg
                  generalize l[i] = t at *
                  have hq : Int.tdiv t 1440 = t / 1440 := Int.tdiv_eq_ediv_of_nonneg HT.out.1
                  have hq1 : 0 ≤ t / 1440 := by have := HT.out; omega
                  have hq2 : t / 1440 ≤ 2932896 := by have := HT.out; omega
                  have ht0 : 0 ≤ t := HT.out.1
                  have ht1 : t ≤ 4223371679 := HT.out.2
                  go_wp2_with fail
                  refine (HC1.out (t / 1440) _ (by omega) (by omega)).mono ?_
                  rintro e w1 ⟨rfl, hb1⟩
                  have HK1 := Lib.hid (HK.out.below hb1)
                  clear hb1 hcs0 hcs1 hr hq
                  have HKK : Hid (spD t = ((f1 (t / 1440)).1, (f1 (t / 1440)).2)) := rfl
                  generalize (f1 (t / 1440)).1 = x at *
                  generalize (f1 (t / 1440)).2 = y at *
                  have HK2 := Lib.hid (HK1.out.alloc (.cells #[.int .i64 x, .int .i64 y] 76))
                  have hc0 := cell_of_row _ _ 0 _ _ _ HK2.out.2.2.2.1
                  simp only [List.getElem?_toArray, List.getElem?_cons_zero] at hc0
                  have hlk : (Instr.lookup 74 (.map (some (wo.heap.size + 1))) (.agg #[.int .i64 x, .int .i64 y]) false).run Try.prog (w1.alloc (.cells #[.int .i64 x, .int .i64 y] 76)) = .ok (.bool (decide ((x, y) ∈ seen))) (w1.alloc (.cells #[.int .i64 x, .int .i64 y] 76)) := look_seen HK2.out.2.2.2.2.1 (x, y)
                  have hln := len_seen HK2.out.2.2.2.2.1
                  rw [kGo, HKK.out] at HG2
                  by_cases hmem : (x, y) ∈ seen
                  · rw [decide_eq_true hmem] at hlk
                    have HG3 : Hid (kGo p2 spD (l.drop (i + 1)) (i + 1) seen out = kGo p2 spD l 0 [] (lastL p1 l.length)) := by
                      have := HG2.out
                      rwa [if_neg (fun h => h.1 hmem)] at this
                    clear hmem HG2
                    go_wp2_with fail
                    go_roundw
                    case rel => exact ⟨i + 1, seen, out, by omega, by go_num, HK2, HOL, HG3⟩
                    case measure => simp [intOf]; omega
                  · rw [decide_eq_false hmem] at hlk
                    by_cases hmy : ((seen.length : Nat) : Int) < p2
                    · have HG3 : Hid (kGo p2 spD (l.drop (i + 1)) (i + 1) (seen ++ [(x, y)]) (out.set i true) = kGo p2 spD l 0 [] (lastL p1 l.length)) := by
                        have := HG2.out
                        rwa [if_pos ⟨hmem, hmy⟩] at this
                      have hput : (Instr.mapUpdate 74 (.map (some (wo.heap.size + 1))) (.agg #[.int .i64 x, .int .i64 y]) (.bool true)).run Try.prog (w1.alloc (.cells #[.int .i64 x, .int .i64 y] 76)) = .ok () (setBlock (w1.alloc (.cells #[.int .i64 x, .int .i64 y] 76)) (wo.heap.size + 1) (mO (seen ++ [(x, y)]))) := put_seen HK2.out.2.2.2.2.1 (x, y) hmem
                      have HK3 := Lib.hid (HK2.out.setM (x, y))
                      have hol : i < out.length := by rw [HOL.out]; exact hlt
                      have hbc := cell_of_row _ O i _ _ _ HK3.out.2.1
                      rw [oC_get out i hol] at hbc
                      have hfb := frozen_of_row _ O i _ _ HK3.out.2.1
                      have HK4 := Lib.hid (HK3.out.setO i)
                      have HOL2 : Hid ((out.set i true).length = l.length) := by show _ = _; rw [List.length_set]; exact HOL.out
                      have hcx := cell_of_row _ (w1.heap.size) 0 _ _ _ (heap_alloc_new w1 (.cells #[.int .i64 x, .int .i64 y] 76))
                      have hcy := cell_of_row _ (w1.heap.size) 1 _ _ _ (heap_alloc_new w1 (.cells #[.int .i64 x, .int .i64 y] 76))
                      simp only [List.getElem?_toArray, List.getElem?_cons_succ, List.getElem?_cons_zero] at hcx hcy
                      clear hmem HG2
                      go_wp2_with fail
                      go_roundw
                      case rel => exact ⟨i + 1, seen ++ [(x, y)], out.set i true, by omega, by go_num, HK4, HOL2, HG3⟩
                      case measure => simp [intOf]; omega
                    · have HG3 : Hid (kGo p2 spD (l.drop (i + 1)) (i + 1) seen out = kGo p2 spD l 0 [] (lastL p1 l.length)) := by
                        have := HG2.out
                        rwa [if_neg (fun h => hmy h.2)] at this
                      clear hmem HG2
                      go_wp2_with fail
                      go_roundw
                      case rel => exact ⟨i + 1, seen, out, by omega, by go_num, HK2, HOL, HG3⟩
                      case measure => simp [intOf]; omega
                · have m1 : ¬ (i : Int) < (l.length : Int) := by omega
                  have HG3 : Hid (out = kGo p2 spD l 0 [] (lastL p1 l.length)) := by
                    have := HG.out
                    rw [List.drop_eq_nil_of_le (by omega), kGo] at this
                    exact this
                  go_wp2_with fail
                  go_roundw
                  case rel => exact ⟨1, out, by omega, by go_num, HK.out.1, HK.out.2.1, HK.out.2.2.1, Lib.hid (by have := HG3.out; rw [this]; simp [FJ])⟩
                  case measure => simp [intOf]
            · -- rule 2
              obtain rfl : out = kGo p2 spD l 0 [] (lastL p1 l.length) := HOUT.out
              obtain ⟨wo, rfl⟩ : ∃ wo : World, wo = wr := ⟨_, rfl⟩
              have hc0 := cell_of_row wo R 2 _ _ _ HR.out
              have hc1 := cell_of_row wo R 3 _ _ _ HR.out
              simp only [← hrc, rulesRow, List.getElem?_toArray, List.getElem?_cons_succ, List.getElem?_cons_zero] at hc0 hc1
              have hmm := @run_makeMap Try.prog
              have HS0 : Hid (KS w (wo.alloc (.cells #[.int .i64 p3, .func (.func 38) #[] #[]] 73) |>.alloc (.map #[] 0)) O R wo.heap.size (wo.heap.size + 1) rc #[.int .i64 p3, .func (.func 38) #[] #[]] (kGo p2 spD l 0 [] (lastL p1 l.length)) []) := KS.start HBR.out HO.out HR.out HOB.out _
              go_wp2_with fail
              go_loopw [75] (fun iv wr' => ∃ (i : Nat) (seen : List KK) (out : List Bool), i ≤ l.length ∧ iv = .int .i64 (i : Int) ∧ Hid (KS w wr' O R wo.heap.size (wo.heap.size + 1) rc #[.int .i64 p3, .func (.func 38) #[] #[]] out seen) ∧ Hid (out.length = l.length) ∧ Hid (kGo p3 spW (l.drop i) i seen out = kGo p3 spW l 0 [] (kGo p2 spD l 0 [] (lastL p1 l.length)))) (fun iv _ => l.length - (intOf iv).toNat)
              case atStart => exact ⟨0, [], _, by omega, rfl, HS0, Lib.hid (by simp [kGo_length, lastL_length]), Lib.hid (by rw [List.drop_zero])⟩
              case round =>
                obtain ⟨i, seen, out, hi, rfl, HK, HOL, HG⟩ := hrel
                by_cases hlt : i < l.length
                · have m1 : (i : Int) < (l.length : Int) := by omega
                  obtain ⟨g, off, rfl, hg, hr⟩ := (HSA.out.below HK.out.1).int i hlt
                  have HT := Lib.hid (HTO.out.2.1 _ (List.getElem_mem hlt))
                  have HG2 : Hid (kGo p3 spW (l[i] :: l.drop (i + 1)) i seen out = kGo p3 spW l 0 [] (kGo p2 spD l 0 [] (lastL p1 l.length))) := by
                    show _ = _
                    rw [← List.drop_eq_getElem_cons hlt]; exact HG.out
                  have hcs0 := cell_of_row _ _ 0 _ _ _ HK.out.2.2.2.1
                  have hcs1 := cell_of_row _ _ 1 _ _ _ HK.out.2.2.2.1
                  simp only [List.getElem?_toArray, List.getElem?_cons_succ, List.getElem?_cons_zero] at hcs0 hcs1
                  have hdv : Hid (0 ≤ l[i] ∧ l[i] ≤ 4223371679) := HT
                  clear hg
                  generalize l[i] = t at *
                  have hq : Int.tdiv t 1440 = t / 1440 := Int.tdiv_eq_ediv_of_nonneg HT.out.1
                  have hq1 : 0 ≤ t / 1440 := by have := HT.out; omega
                  have hq2 : t / 1440 ≤ 2932896 := by have := HT.out; omega
                  have ht0 : 0 ≤ t := HT.out.1
                  have ht1 : t ≤ 4223371679 := HT.out.2
                  go_wp2_with fail
                  refine (HC2.out (t / 1440) _ (by omega) (by omega)).mono ?_
                  rintro e w1 ⟨rfl, hb1⟩
                  have HK1 := Lib.hid (HK.out.below hb1)
                  clear hb1 hcs0 hcs1 hr hq
                  have HKK : Hid (spW t = ((f2 (t / 1440)).1, (f2 (t / 1440)).2)) := rfl
                  generalize (f2 (t / 1440)).1 = x at *
                  generalize (f2 (t / 1440)).2 = y at *
                  have HK2 := Lib.hid (HK1.out.alloc (.cells #[.int .i64 x, .int .i64 y] 76))
                  have hc0 := cell_of_row _ _ 0 _ _ _ HK2.out.2.2.2.1
                  simp only [List.getElem?_toArray, List.getElem?_cons_zero] at hc0
                  have hlk : (Instr.lookup 74 (.map (some (wo.heap.size + 1))) (.agg #[.int .i64 x, .int .i64 y]) false).run Try.prog (w1.alloc (.cells #[.int .i64 x, .int .i64 y] 76)) = .ok (.bool (decide ((x, y) ∈ seen))) (w1.alloc (.cells #[.int .i64 x, .int .i64 y] 76)) := look_seen HK2.out.2.2.2.2.1 (x, y)
                  have hln := len_seen HK2.out.2.2.2.2.1
                  rw [kGo, HKK.out] at HG2
                  by_cases hmem : (x, y) ∈ seen
                  · rw [decide_eq_true hmem] at hlk
                    have HG3 : Hid (kGo p3 spW (l.drop (i + 1)) (i + 1) seen out = kGo p3 spW l 0 [] (kGo p2 spD l 0 [] (lastL p1 l.length))) := by
                      have := HG2.out
                      rwa [if_neg (fun h => h.1 hmem)] at this
                    clear hmem HG2
                    go_wp2_with fail
                    go_roundw
                    case rel => exact ⟨i + 1, seen, out, by omega, by go_num, HK2, HOL, HG3⟩
                    case measure => simp [intOf]; omega
                  · rw [decide_eq_false hmem] at hlk
                    by_cases hmy : ((seen.length : Nat) : Int) < p3
                    · have HG3 : Hid (kGo p3 spW (l.drop (i + 1)) (i + 1) (seen ++ [(x, y)]) (out.set i true) = kGo p3 spW l 0 [] (kGo p2 spD l 0 [] (lastL p1 l.length))) := by
                        have := HG2.out
                        rwa [if_pos ⟨hmem, hmy⟩] at this
                      have hput : (Instr.mapUpdate 74 (.map (some (wo.heap.size + 1))) (.agg #[.int .i64 x, .int .i64 y]) (.bool true)).run Try.prog (w1.alloc (.cells #[.int .i64 x, .int .i64 y] 76)) = .ok () (setBlock (w1.alloc (.cells #[.int .i64 x, .int .i64 y] 76)) (wo.heap.size + 1) (mO (seen ++ [(x, y)]))) := put_seen HK2.out.2.2.2.2.1 (x, y) hmem
                      have HK3 := Lib.hid (HK2.out.setM (x, y))
                      have hol : i < out.length := by rw [HOL.out]; exact hlt
                      have hbc := cell_of_row _ O i _ _ _ HK3.out.2.1
                      rw [oC_get out i hol] at hbc
                      have hfb := frozen_of_row _ O i _ _ HK3.out.2.1
                      have HK4 := Lib.hid (HK3.out.setO i)
                      have HOL2 : Hid ((out.set i true).length = l.length) := by show _ = _; rw [List.length_set]; exact HOL.out
                      have hcx := cell_of_row _ (w1.heap.size) 0 _ _ _ (heap_alloc_new w1 (.cells #[.int .i64 x, .int .i64 y] 76))
                      have hcy := cell_of_row _ (w1.heap.size) 1 _ _ _ (heap_alloc_new w1 (.cells #[.int .i64 x, .int .i64 y] 76))
                      simp only [List.getElem?_toArray, List.getElem?_cons_succ, List.getElem?_cons_zero] at hcx hcy
                      clear hmem HG2
                      go_wp2_with fail
                      go_roundw
                      case rel => exact ⟨i + 1, seen ++ [(x, y)], out.set i true, by omega, by go_num, HK4, HOL2, HG3⟩
                      case measure => simp [intOf]; omega
                    · have HG3 : Hid (kGo p3 spW (l.drop (i + 1)) (i + 1) seen out = kGo p3 spW l 0 [] (kGo p2 spD l 0 [] (lastL p1 l.length))) := by
                        have := HG2.out
                        rwa [if_neg (fun h => hmy h.2)] at this
                      clear hmem HG2
                      go_wp2_with fail
                      go_roundw
                      case rel => exact ⟨i + 1, seen, out, by omega, by go_num, HK2, HOL, HG3⟩
                      case measure => simp [intOf]; omega
                · have m1 : ¬ (i : Int) < (l.length : Int) := by omega
                  have HG3 : Hid (out = kGo p3 spW l 0 [] (kGo p2 spD l 0 [] (lastL p1 l.length))) := by
                    have := HG.out
                    rw [List.drop_eq_nil_of_le (by omega), kGo] at this
                    exact this
                  go_wp2_with fail
                  go_roundw
                  case rel => exact ⟨2, out, by omega, by go_num, HK.out.1, HK.out.2.1, HK.out.2.2.1, Lib.hid (by have := HG3.out; rw [this]; simp [FJ])⟩
                  case measure => simp [intOf]
            · -- rule 3
              obtain rfl : out = kGo p3 spW l 0 [] (kGo p2 spD l 0 [] (lastL p1 l.length)) := HOUT.out
              obtain ⟨wo, rfl⟩ : ∃ wo : World, wo = wr := ⟨_, rfl⟩
              have hc0 := cell_of_row wo R 4 _ _ _ HR.out
              have hc1 := cell_of_row wo R 5 _ _ _ HR.out
              simp only [← hrc, rulesRow, List.getElem?_toArray, List.getElem?_cons_succ, List.getElem?_cons_zero] at hc0 hc1
              have hmm := @run_makeMap Try.prog
              have HS0 : Hid (KS w (wo.alloc (.cells #[.int .i64 p4, .func (.func 39) #[] #[]] 73) |>.alloc (.map #[] 0)) O R wo.heap.size (wo.heap.size + 1) rc #[.int .i64 p4, .func (.func 39) #[] #[]] (kGo p3 spW l 0 [] (kGo p2 spD l 0 [] (lastL p1 l.length))) []) := KS.start HBR.out HO.out HR.out HOB.out _
              go_wp2_with fail
              go_loopw [75] (fun iv wr' => ∃ (i : Nat) (seen : List KK) (out : List Bool), i ≤ l.length ∧ iv = .int .i64 (i : Int) ∧ Hid (KS w wr' O R wo.heap.size (wo.heap.size + 1) rc #[.int .i64 p4, .func (.func 39) #[] #[]] out seen) ∧ Hid (out.length = l.length) ∧ Hid (kGo p4 spM (l.drop i) i seen out = kGo p4 spM l 0 [] (kGo p3 spW l 0 [] (kGo p2 spD l 0 [] (lastL p1 l.length))))) (fun iv _ => l.length - (intOf iv).toNat)
              case atStart => exact ⟨0, [], _, by omega, rfl, HS0, Lib.hid (by simp [kGo_length, lastL_length]), Lib.hid (by rw [List.drop_zero])⟩
              case round =>
                obtain ⟨i, seen, out, hi, rfl, HK, HOL, HG⟩ := hrel
                by_cases hlt : i < l.length
                · have m1 : (i : Int) < (l.length : Int) := by omega
                  obtain ⟨g, off, rfl, hg, hr⟩ := (HSA.out.below HK.out.1).int i hlt
                  have HT := Lib.hid (HTO.out.2.1 _ (List.getElem_mem hlt))
                  have HG2 : Hid (kGo p4 spM (l[i] :: l.drop (i + 1)) i seen out = kGo p4 spM l 0 [] (kGo p3 spW l 0 [] (kGo p2 spD l 0 [] (lastL p1 l.length)))) := by
                    show _ = _
                    rw [← List.drop_eq_getElem_cons hlt]; exact HG.out
                  have hcs0 := cell_of_row _ _ 0 _ _ _ HK.out.2.2.2.1
                  have hcs1 := cell_of_row _ _ 1 _ _ _ HK.out.2.2.2.1
                  simp only [List.getElem?_toArray, List.getElem?_cons_succ, List.getElem?_cons_zero] at hcs0 hcs1
                  have hdv : Hid (0 ≤ l[i] ∧ l[i] ≤ 4223371679) := HT
                  clear hg
                  generalize l[i] = t at *
                  have hq : Int.tdiv t 1440 = t / 1440 := Int.tdiv_eq_ediv_of_nonneg HT.out.1
                  have hq1 : 0 ≤ t / 1440 := by have := HT.out; omega
                  have hq2 : t / 1440 ≤ 2932896 := by have := HT.out; omega
                  have ht0 : 0 ≤ t := HT.out.1
                  have ht1 : t ≤ 4223371679 := HT.out.2
                  go_wp2_with fail
                  refine (HC3.out (t / 1440) _ (by omega) (by omega)).mono ?_
                  rintro e w1 ⟨rfl, hb1⟩
                  have HK1 := Lib.hid (HK.out.below hb1)
                  clear hb1 hcs0 hcs1 hr hq
                  have HKK : Hid (spM t = ((f3 (t / 1440)).1, (f3 (t / 1440)).2)) := rfl
                  generalize (f3 (t / 1440)).1 = x at *
                  generalize (f3 (t / 1440)).2 = y at *
                  have HK2 := Lib.hid (HK1.out.alloc (.cells #[.int .i64 x, .int .i64 y] 76))
                  have hc0 := cell_of_row _ _ 0 _ _ _ HK2.out.2.2.2.1
                  simp only [List.getElem?_toArray, List.getElem?_cons_zero] at hc0
                  have hlk : (Instr.lookup 74 (.map (some (wo.heap.size + 1))) (.agg #[.int .i64 x, .int .i64 y]) false).run Try.prog (w1.alloc (.cells #[.int .i64 x, .int .i64 y] 76)) = .ok (.bool (decide ((x, y) ∈ seen))) (w1.alloc (.cells #[.int .i64 x, .int .i64 y] 76)) := look_seen HK2.out.2.2.2.2.1 (x, y)
                  have hln := len_seen HK2.out.2.2.2.2.1
                  rw [kGo, HKK.out] at HG2
                  by_cases hmem : (x, y) ∈ seen
                  · rw [decide_eq_true hmem] at hlk
                    have HG3 : Hid (kGo p4 spM (l.drop (i + 1)) (i + 1) seen out = kGo p4 spM l 0 [] (kGo p3 spW l 0 [] (kGo p2 spD l 0 [] (lastL p1 l.length)))) := by
                      have := HG2.out
                      rwa [if_neg (fun h => h.1 hmem)] at this
                    clear hmem HG2
                    go_wp2_with fail
                    go_roundw
                    case rel => exact ⟨i + 1, seen, out, by omega, by go_num, HK2, HOL, HG3⟩
                    case measure => simp [intOf]; omega
                  · rw [decide_eq_false hmem] at hlk
                    by_cases hmy : ((seen.length : Nat) : Int) < p4
                    · have HG3 : Hid (kGo p4 spM (l.drop (i + 1)) (i + 1) (seen ++ [(x, y)]) (out.set i true) = kGo p4 spM l 0 [] (kGo p3 spW l 0 [] (kGo p2 spD l 0 [] (lastL p1 l.length)))) := by
                        have := HG2.out
                        rwa [if_pos ⟨hmem, hmy⟩] at this
                      have hput : (Instr.mapUpdate 74 (.map (some (wo.heap.size + 1))) (.agg #[.int .i64 x, .int .i64 y]) (.bool true)).run Try.prog (w1.alloc (.cells #[.int .i64 x, .int .i64 y] 76)) = .ok () (setBlock (w1.alloc (.cells #[.int .i64 x, .int .i64 y] 76)) (wo.heap.size + 1) (mO (seen ++ [(x, y)]))) := put_seen HK2.out.2.2.2.2.1 (x, y) hmem
                      have HK3 := Lib.hid (HK2.out.setM (x, y))
                      have hol : i < out.length := by rw [HOL.out]; exact hlt
                      have hbc := cell_of_row _ O i _ _ _ HK3.out.2.1
                      rw [oC_get out i hol] at hbc
                      have hfb := frozen_of_row _ O i _ _ HK3.out.2.1
                      have HK4 := Lib.hid (HK3.out.setO i)
                      have HOL2 : Hid ((out.set i true).length = l.length) := by show _ = _; rw [List.length_set]; exact HOL.out
                      have hcx := cell_of_row _ (w1.heap.size) 0 _ _ _ (heap_alloc_new w1 (.cells #[.int .i64 x, .int .i64 y] 76))
                      have hcy := cell_of_row _ (w1.heap.size) 1 _ _ _ (heap_alloc_new w1 (.cells #[.int .i64 x, .int .i64 y] 76))
                      simp only [List.getElem?_toArray, List.getElem?_cons_succ, List.getElem?_cons_zero] at hcx hcy
                      clear hmem HG2
                      go_wp2_with fail
                      go_roundw
                      case rel => exact ⟨i + 1, seen ++ [(x, y)], out.set i true, by omega, by go_num, HK4, HOL2, HG3⟩
                      case measure => simp [intOf]; omega
                    · have HG3 : Hid (kGo p4 spM (l.drop (i + 1)) (i + 1) seen out = kGo p4 spM l 0 [] (kGo p3 spW l 0 [] (kGo p2 spD l 0 [] (lastL p1 l.length)))) := by
                        have := HG2.out
                        rwa [if_neg (fun h => hmy h.2)] at this
                      clear hmem HG2
                      go_wp2_with fail
                      go_roundw
                      case rel => exact ⟨i + 1, seen, out, by omega, by go_num, HK2, HOL, HG3⟩
                      case measure => simp [intOf]; omega
                · have m1 : ¬ (i : Int) < (l.length : Int) := by omega
                  have HG3 : Hid (out = kGo p4 spM l 0 [] (kGo p3 spW l 0 [] (kGo p2 spD l 0 [] (lastL p1 l.length)))) := by
                    have := HG.out
                    rw [List.drop_eq_nil_of_le (by omega), kGo] at this
                    exact this
                  go_wp2_with fail
                  go_roundw
                  case rel => exact ⟨3, out, by omega, by go_num, HK.out.1, HK.out.2.1, HK.out.2.2.1, Lib.hid (by have := HG3.out; rw [this]; simp [FJ])⟩
                  case measure => simp [intOf]
            · -- rule 4
              obtain rfl : out = kGo p4 spM l 0 [] (kGo p3 spW l 0 [] (kGo p2 spD l 0 [] (lastL p1 l.length))) := HOUT.out
              obtain ⟨wo, rfl⟩ : ∃ wo : World, wo = wr := ⟨_, rfl⟩
              have hc0 := cell_of_row wo R 6 _ _ _ HR.out
              have hc1 := cell_of_row wo R 7 _ _ _ HR.out
              simp only [← hrc, rulesRow, List.getElem?_toArray, List.getElem?_cons_succ, List.getElem?_cons_zero] at hc0 hc1
              have hmm := @run_makeMap Try.prog
              have HS0 : Hid (KS w (wo.alloc (.cells #[.int .i64 p5, .func (.func 40) #[] #[]] 73) |>.alloc (.map #[] 0)) O R wo.heap.size (wo.heap.size + 1) rc #[.int .i64 p5, .func (.func 40) #[] #[]] (kGo p4 spM l 0 [] (kGo p3 spW l 0 [] (kGo p2 spD l 0 [] (lastL p1 l.length)))) []) := KS.start HBR.out HO.out HR.out HOB.out _
              go_wp2_with fail
              go_loopw [75] (fun iv wr' => ∃ (i : Nat) (seen : List KK) (out : List Bool), i ≤ l.length ∧ iv = .int .i64 (i : Int) ∧ Hid (KS w wr' O R wo.heap.size (wo.heap.size + 1) rc #[.int .i64 p5, .func (.func 40) #[] #[]] out seen) ∧ Hid (out.length = l.length) ∧ Hid (kGo p5 spY (l.drop i) i seen out = kGo p5 spY l 0 [] (kGo p4 spM l 0 [] (kGo p3 spW l 0 [] (kGo p2 spD l 0 [] (lastL p1 l.length)))))) (fun iv _ => l.length - (intOf iv).toNat)
              case atStart => exact ⟨0, [], _, by omega, rfl, HS0, Lib.hid (by simp [kGo_length, lastL_length]), Lib.hid (by rw [List.drop_zero])⟩
              case round =>
                obtain ⟨i, seen, out, hi, rfl, HK, HOL, HG⟩ := hrel
                by_cases hlt : i < l.length
                · have m1 : (i : Int) < (l.length : Int) := by omega
                  obtain ⟨g, off, rfl, hg, hr⟩ := (HSA.out.below HK.out.1).int i hlt
                  have HT := Lib.hid (HTO.out.2.1 _ (List.getElem_mem hlt))
                  have HG2 : Hid (kGo p5 spY (l[i] :: l.drop (i + 1)) i seen out = kGo p5 spY l 0 [] (kGo p4 spM l 0 [] (kGo p3 spW l 0 [] (kGo p2 spD l 0 [] (lastL p1 l.length))))) := by
                    show _ = _
                    rw [← List.drop_eq_getElem_cons hlt]; exact HG.out
                  have hcs0 := cell_of_row _ _ 0 _ _ _ HK.out.2.2.2.1
                  have hcs1 := cell_of_row _ _ 1 _ _ _ HK.out.2.2.2.1
                  simp only [List.getElem?_toArray, List.getElem?_cons_succ, List.getElem?_cons_zero] at hcs0 hcs1
                  have hdv : Hid (0 ≤ l[i] ∧ l[i] ≤ 4223371679) := HT
                  clear hg
                  generalize l[i] = t at *
                  have hq : Int.tdiv t 1440 = t / 1440 := Int.tdiv_eq_ediv_of_nonneg HT.out.1
                  have hq1 : 0 ≤ t / 1440 := by have := HT.out; omega
                  have hq2 : t / 1440 ≤ 2932896 := by have := HT.out; omega
                  have ht0 : 0 ≤ t := HT.out.1
                  have ht1 : t ≤ 4223371679 := HT.out.2
                  go_wp2_with fail
                  refine (HC4.out (t / 1440) _ (by omega) (by omega)).mono ?_
                  rintro e w1 ⟨rfl, hb1⟩
                  have HK1 := Lib.hid (HK.out.below hb1)
                  clear hb1 hcs0 hcs1 hr hq
                  have HKK : Hid (spY t = ((f4 (t / 1440)).1, (f4 (t / 1440)).2)) := rfl
                  generalize (f4 (t / 1440)).1 = x at *
                  generalize (f4 (t / 1440)).2 = y at *
                  have HK2 := Lib.hid (HK1.out.alloc (.cells #[.int .i64 x, .int .i64 y] 76))
                  have hc0 := cell_of_row _ _ 0 _ _ _ HK2.out.2.2.2.1
                  simp only [List.getElem?_toArray, List.getElem?_cons_zero] at hc0
                  have hlk : (Instr.lookup 74 (.map (some (wo.heap.size + 1))) (.agg #[.int .i64 x, .int .i64 y]) false).run Try.prog (w1.alloc (.cells #[.int .i64 x, .int .i64 y] 76)) = .ok (.bool (decide ((x, y) ∈ seen))) (w1.alloc (.cells #[.int .i64 x, .int .i64 y] 76)) := look_seen HK2.out.2.2.2.2.1 (x, y)
                  have hln := len_seen HK2.out.2.2.2.2.1
                  rw [kGo, HKK.out] at HG2
                  by_cases hmem : (x, y) ∈ seen
                  · rw [decide_eq_true hmem] at hlk
                    have HG3 : Hid (kGo p5 spY (l.drop (i + 1)) (i + 1) seen out = kGo p5 spY l 0 [] (kGo p4 spM l 0 [] (kGo p3 spW l 0 [] (kGo p2 spD l 0 [] (lastL p1 l.length))))) := by
                      have := HG2.out
                      rwa [if_neg (fun h => h.1 hmem)] at this
                    clear hmem HG2
                    go_wp2_with fail
                    go_roundw
                    case rel => exact ⟨i + 1, seen, out, by omega, by go_num, HK2, HOL, HG3⟩
                    case measure => simp [intOf]; omega
                  · rw [decide_eq_false hmem] at hlk
                    by_cases hmy : ((seen.length : Nat) : Int) < p5
                    · have HG3 : Hid (kGo p5 spY (l.drop (i + 1)) (i + 1) (seen ++ [(x, y)]) (out.set i true) = kGo p5 spY l 0 [] (kGo p4 spM l 0 [] (kGo p3 spW l 0 [] (kGo p2 spD l 0 [] (lastL p1 l.length))))) := by
                        have := HG2.out
                        rwa [if_pos ⟨hmem, hmy⟩] at this
                      have hput : (Instr.mapUpdate 74 (.map (some (wo.heap.size + 1))) (.agg #[.int .i64 x, .int .i64 y]) (.bool true)).run Try.prog (w1.alloc (.cells #[.int .i64 x, .int .i64 y] 76)) = .ok () (setBlock (w1.alloc (.cells #[.int .i64 x, .int .i64 y] 76)) (wo.heap.size + 1) (mO (seen ++ [(x, y)]))) := put_seen HK2.out.2.2.2.2.1 (x, y) hmem
                      have HK3 := Lib.hid (HK2.out.setM (x, y))
                      have hol : i < out.length := by rw [HOL.out]; exact hlt
                      have hbc := cell_of_row _ O i _ _ _ HK3.out.2.1
                      rw [oC_get out i hol] at hbc
                      have hfb := frozen_of_row _ O i _ _ HK3.out.2.1
                      have HK4 := Lib.hid (HK3.out.setO i)
                      have HOL2 : Hid ((out.set i true).length = l.length) := by show _ = _; rw [List.length_set]; exact HOL.out
                      have hcx := cell_of_row _ (w1.heap.size) 0 _ _ _ (heap_alloc_new w1 (.cells #[.int .i64 x, .int .i64 y] 76))
                      have hcy := cell_of_row _ (w1.heap.size) 1 _ _ _ (heap_alloc_new w1 (.cells #[.int .i64 x, .int .i64 y] 76))
                      simp only [List.getElem?_toArray, List.getElem?_cons_succ, List.getElem?_cons_zero] at hcx hcy
                      clear hmem HG2
                      go_wp2_with fail
                      go_roundw
                      case rel => exact ⟨i + 1, seen ++ [(x, y)], out.set i true, by omega, by go_num, HK4, HOL2, HG3⟩
                      case measure => simp [intOf]; omega
                    · have HG3 : Hid (kGo p5 spY (l.drop (i + 1)) (i + 1) seen out = kGo p5 spY l 0 [] (kGo p4 spM l 0 [] (kGo p3 spW l 0 [] (kGo p2 spD l 0 [] (lastL p1 l.length))))) := by
                        have := HG2.out
                        rwa [if_neg (fun h => hmy h.2)] at this
                      clear hmem HG2
                      go_wp2_with fail
                      go_roundw
                      case rel => exact ⟨i + 1, seen, out, by omega, by go_num, HK2, HOL, HG3⟩
                      case measure => simp [intOf]; omega
                · have m1 : ¬ (i : Int) < (l.length : Int) := by omega
                  have HG3 : Hid (out = kGo p5 spY l 0 [] (kGo p4 spM l 0 [] (kGo p3 spW l 0 [] (kGo p2 spD l 0 [] (lastL p1 l.length))))) := by
                    have := HG.out
                    rw [List.drop_eq_nil_of_le (by omega), kGo] at this
                    exact this
                  go_wp2_with fail
                  go_roundw
                  case rel => exact ⟨4, out, by omega, by go_num, HK.out.1, HK.out.2.1, HK.out.2.2.1, Lib.hid (by have := HG3.out; rw [this]; simp [FJ, pickL])⟩
                  case measure => simp [intOf]
end Go.Proofs.Ythfjonicolhjnaa

