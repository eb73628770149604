/- Trees in cells; the walks of cmp.Or and of the order of trees. -/
import Derived.Test.YtbfhhnpoogmlnaaDoorBase3
import Derived.Test.YtbfhhnpoogmlnaaDoorInts
import Derived.Test.YtbfhhnpoogmlnaaDoorHeapPlain
import Derived.Laws.EntriesVeiled
namespace Go.Proofs.YtbfhhnpoogmlnaaDoor
open Go.RowKit Plain
set_option linter.unusedVariables false
set_option linter.unusedSimpArgs false
/-- a tree: weight, least sign, where its signs stand, their capacity, its signs -/
abbrev TV := Nat × Nat × Option Addr × Nat × List Nat
def hC (t : TV) : List Value := [.int .i64 (t.1 : Int), .int .i64 (t.2.1 : Int), .slice t.2.2.1 t.2.2.2.2.length t.2.2.2.1]
theorem hC_length (t : TV) : (hC t).length = 3 := rfl
theorem hC_one (t : TV) : ∀ u ∈ hC t, u.oneCell' = true := by
  intro u hu
  simp only [hC, List.mem_cons, List.not_mem_nil, or_false] at hu
  rcases hu with rfl | rfl | rfl <;> rfl
def leT (x y : TV) : Prop := x.1 < y.1 ∨ (x.1 = y.1 ∧ x.2.1 ≤ y.2.1)
theorem leT_trans : ∀ a b c : TV, leT a b → leT b c → leT a c := fun a b c h g => by
  unfold leT at *
  omega
theorem leT_total : ∀ a b : TV, leT a b ∨ leT b a := fun a b => by
  unfold leT
  omega
theorem leT_refl (a : TV) : leT a a := .inr ⟨rfl, Nat.le_refl _⟩
def OkT (t : TV) : Prop := t.1 ≤ 1099511627776 ∧ t.2.1 ≤ 1099511627776 ∧ t.2.2.2.2.length ≤ 1099511627776
def OrEnd (w0 : World) (l : List Int) (e : Ending) (w : World) : Prop := (∃ r : Int, e = .returned (.int .i64 r) ∧ ((∃ (j : Nat) (h : j < l.length), r = l[j] ∧ l[j] ≠ 0 ∧ ∀ k (hk : k < j), l[k]'(by omega) = 0) ∨ (r = 0 ∧ ∀ k (hk : k < l.length), l[k] = 0))) ∧ Below w0.heap.size w0 w
set_option maxRecDepth 100000 in
set_option maxHeartbeats 1600000 in
theorem or_any (a : Option Addr) (cap : Nat) (l : List Int) (w : World) (h : SAt 1 iC w a l) (hl : l.length ≤ 9223372036854775807) : Calls Tryd.prog 107 #[.slice a l.length cap] w (OrEnd w l) := by
  have HS := Lib.hid h
  clear h
  go_enter Tryd.func107, Tryd.ntmps107
  go_wp2_with fail
  go_loopw [8] (fun iv wr => ∃ i : Nat, i ≤ l.length ∧ iv = .int .i64 (i : Int) ∧ Hid (Below w.heap.size w wr) ∧ Hid (∀ k (hk : k < l.length), k < i → l[k] = 0)) (fun iv _ => l.length - (intOf iv).toNat)
  case atStart => exact ⟨0, by omega, rfl, Lib.hid (Below.refl _ _), Lib.hid (fun k _ h => by omega)⟩
  case round =>
    obtain ⟨i, hi, rfl, HBR, HP⟩ := hrel
    have m0 : (0 : Int) ≤ (i : Int) := Int.natCast_nonneg _
    by_cases hil : i < l.length
    · have m1 : (i : Int) < (l.length : Int) := by omega
      obtain ⟨g, off, rfl, hg, c0⟩ := (HS.out.below HBR.out).int i hil
      obtain ⟨x, hx⟩ : ∃ x, l[i] = x := ⟨_, rfl⟩
      rw [hx] at c0
      have HX := Lib.hid hx
      clear hg hx
      by_cases hx0 : x = 0
      · subst hx0
        have HPN : Hid (∀ k (hk : k < l.length), k < i + 1 → l[k] = 0) := fun k hk h2 => by
          rcases Nat.lt_or_ge k i with h3 | h3
          · exact HP.out k hk h3
          · obtain rfl : k = i := by omega
            exact HX.out
        go_wp2_with fail
        go_roundw
        case rel => exact ⟨i + 1, by omega, by go_num, HBR, HPN⟩
        case measure => simp [intOf]; omega
      · have hxb : (x != 0) = true := by simpa using hx0
        have HX0 := Lib.hid hx0
        go_wp2_with fail
        go_ret
        exact ⟨⟨x, rfl, .inl ⟨i, hil, HX.out.symm, by rw [HX.out]; exact HX0.out, fun k hk => HP.out k (by omega) hk⟩⟩, HBR.out⟩
    · have m1 : ¬ (i : Int) < (l.length : Int) := by omega
      go_wp2_with fail
      go_ret
      exact ⟨⟨0, rfl, .inr ⟨rfl, fun k hk => HP.out k hk (by omega)⟩⟩, HBR.out⟩
def CmpEnd (w0 : World) (x y : TV) (e : Ending) (w : World) : Prop := (∃ r : Int, e = .returned (.int .i64 r) ∧ (r ≤ 0 ↔ leT x y) ∧ (r < 0 ↔ ¬ leT y x)) ∧ Below w0.heap.size w0 w
set_option maxRecDepth 100000 in
set_option maxHeartbeats 1600000 in
theorem cmpT_any (x y : TV) (w : World) (hx : OkT x) (hy : OkT y) : Calls Tryd.prog 106 #[.agg (hC x).toArray, .agg (hC y).toArray] w (CmpEnd w x y) := by
  obtain ⟨xw, xm, xa, xc, xs⟩ := x
  obtain ⟨yw, ym, ya, yc, ys⟩ := y
  obtain ⟨b1, b2, _⟩ := hx
  obtain ⟨b3, b4, _⟩ := hy
  simp only at b1 b2 b3 b4
  have e1 : IntKind.i64.wrap ((xw : Int) - (yw : Int)) = (xw : Int) - (yw : Int) := by rw [IntKind.wrap_i64]; omega
  have e2 : IntKind.i64.wrap ((xm : Int) - (ym : Int)) = (xm : Int) - (ym : Int) := by rw [IntKind.wrap_i64]; omega
  have HB := Lib.hid (((Below.refl w.heap.size w).alloc (Nat.le_refl _) (.cells (hC (xw, xm, xa, xc, xs)).toArray 179)).alloc (by simp) (.cells (hC (yw, ym, ya, yc, ys)).toArray 179))
  have h0 := heap_twoK w (.cells (hC (xw, xm, xa, xc, xs)).toArray 179) (.cells (hC (yw, ym, ya, yc, ys)).toArray 179)
  have HR1 := Lib.hid h0.1
  have HR2 := Lib.hid h0.2
  clear h0
  simp only [hC] at HB HR1 HR2 ⊢
  have HSZ : Hid ((((w.alloc (.cells #[.int .i64 (xw : Int), .int .i64 (xm : Int), .slice xa xs.length xc] 179)).alloc (.cells #[.int .i64 (yw : Int), .int .i64 (ym : Int), .slice ya ys.length yc] 179))).heap.size = w.heap.size + 2) := by show _ = _; simp
  have HB3 := Lib.hid (HB.out.alloc HB.out.size (.cells #[.int .i64 ((xw : Int) - (yw : Int)), .int .i64 ((xm : Int) - (ym : Int))] 3))
  have HL : Hid (SAt 1 iC ((((w.alloc (.cells #[.int .i64 (xw : Int), .int .i64 (xm : Int), .slice xa xs.length xc] 179)).alloc (.cells #[.int .i64 (yw : Int), .int .i64 (ym : Int), .slice ya ys.length yc] 179))).alloc (.cells #[.int .i64 ((xw : Int) - (yw : Int)), .int .i64 ((xm : Int) - (ym : Int))] 3)) (some ⟨w.heap.size + 1 + 1, 0, none⟩) [(xw : Int) - (yw : Int), (xm : Int) - (ym : Int)]) := by
    have hn := heap_alloc_new (((w.alloc (.cells #[.int .i64 (xw : Int), .int .i64 (xm : Int), .slice xa xs.length xc] 179)).alloc (.cells #[.int .i64 (yw : Int), .int .i64 (ym : Int), .slice ya ys.length yc] 179))) (.cells #[.int .i64 ((xw : Int) - (yw : Int)), .int .i64 ((xm : Int) - (ym : Int))] 3)
    rw [HSZ.out] at hn
    intro i hi
    refine ⟨w.heap.size + 1 + 1, 0, rfl, lt_of_block hn, fun j u hu => ?_⟩
    rw [cell_of_row _ _ _ _ _ _ hn]
    match i, hi, j, hu with
    | 0, _, 0, hu => exact hu
    | 1, _, 0, hu => exact hu
    | 0, _, j + 1, hu => simp [iC] at hu
    | 1, _, j + 1, hu => simp [iC] at hu
    | i + 2, hi, _, _ => exact absurd hi (by simp only [List.length_cons, List.length_nil]; omega)
  have r0 := cell_of_row _ _ 0 _ _ _ HR1.out
  have r1 := cell_of_row _ _ 1 _ _ _ HR1.out
  have q0 := cell_of_row _ _ 0 _ _ _ HR2.out
  have q1 := cell_of_row _ _ 1 _ _ _ HR2.out
  simp only [List.getElem?_toArray, List.getElem?_cons_succ, List.getElem?_cons_zero] at r0 r1 q0 q1
  go_enter Tryd.func106, Tryd.ntmps106
  go_wp2_with fail
  refine (or_any (some ⟨w.heap.size + 1 + 1, 0, none⟩) 2 [(xw : Int) - (yw : Int), (xm : Int) - (ym : Int)] _ HL.out (by simp)).mono ?_
  rintro e w1 ⟨⟨r, rfl, hr⟩, hb1⟩
  have HRR := Lib.hid hr
  have HB1 := Lib.hid (Below.next HB3.out hb1 (by simp <;> omega))
  clear hr hb1
  go_wp2_with fail
  go_ret
  refine ⟨⟨r, rfl, ?_⟩, HB1.out⟩
  have key : (xw ≠ yw ∧ r = (xw : Int) - (yw : Int)) ∨ (xw = yw ∧ r = (xm : Int) - (ym : Int)) := by
    rcases HRR.out with ⟨j, hj, h1, h2, h3⟩ | ⟨h1, h2⟩
    · match j, hj with
      | 0, _ =>
        simp only [List.getElem_cons_zero] at h1 h2
        exact .inl ⟨by omega, h1⟩
      | 1, _ =>
        have := h3 0 (by decide)
        simp only [List.getElem_cons_succ, List.getElem_cons_zero] at h1 this
        exact .inr ⟨by omega, h1⟩
    · have a1 := h2 0 (by simp)
      have a2 := h2 1 (by simp)
      simp only [List.getElem_cons_succ, List.getElem_cons_zero] at a1 a2
      exact .inr ⟨by omega, by omega⟩
  unfold leT
  simp only
  omega
end Go.Proofs.YtbfhhnpoogmlnaaDoor
