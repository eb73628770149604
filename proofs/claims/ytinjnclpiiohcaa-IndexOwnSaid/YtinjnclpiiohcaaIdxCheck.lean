/- The walk of index.Check. -/
import Derived.Test.YtinjnclpiiohcaaPlace
import Derived.StillTailTactics
import Derived.Test.YtinjnclpiiohcaaBits
namespace Go.Proofs.Ytinjnclpiiohcaa
open Go.RowKit Plain
namespace Plain
/-- the places stand in their order -/
def xOk (l : List Pl) : Prop := l.length ≤ 400 ∧ (∀ p ∈ l, pOk p) ∧ ∀ i (h : i + 1 < l.length), 0 < cmpN (idL l[i + 1].1) (idL (l[i]'(by omega)).1)
theorem xOk_snoc {l : List Pl} {i : Nat} (h : xOk (l.take i)) (h400 : l.length ≤ 400) (hi : i < l.length) (hp : pOk l[i]) (hc : ∀ j (e : i = j + 1), 0 < cmpN (idL l[i].1) (idL (l[j]'(by omega)).1)) : xOk (l.take (i + 1)) := by
  obtain ⟨_, h2, h3⟩ := h
  refine ⟨by rw [List.length_take]; omega, fun p hm => ?_, fun j hj => ?_⟩
  · rw [List.take_succ_eq_append_getElem hi] at hm
    rcases List.mem_append.1 hm with hm | hm
    · exact h2 p hm
    · simp only [List.mem_singleton] at hm; subst hm; exact hp
  · rw [List.length_take] at hj
    rw [List.getElem_take, List.getElem_take]
    by_cases e : j + 1 = i
    · subst e
      exact hc j rfl
    · have := h3 j (by rw [List.length_take]; omega)
      rwa [List.getElem_take, List.getElem_take] at this
end Plain
/-- a place read, cell by cell -/
theorem SAt.place {w : World} {a : Option Addr} {l : List Pl} (h : SAt 12 plC w a l) (i : Nat) (hi : i < l.length) (p : Pl) (hp : l[i] = p) : ∃ g off, a = some ⟨g, off, none⟩ ∧ g < w.heap.size ∧
    w.cell? ⟨g, off + i * 12, none⟩ = some (bV p.1.1) ∧ w.cell? ⟨g, off + i * 12 + 1, none⟩ = some (bV p.1.2.1) ∧ w.cell? ⟨g, off + i * 12 + 2, none⟩ = some (bV p.1.2.2.1) ∧ w.cell? ⟨g, off + i * 12 + 3, none⟩ = some (bV p.1.2.2.2.1) ∧
    w.cell? ⟨g, off + i * 12 + 4, none⟩ = some (bV p.1.2.2.2.2.1) ∧ w.cell? ⟨g, off + i * 12 + 5, none⟩ = some (bV p.1.2.2.2.2.2.1) ∧ w.cell? ⟨g, off + i * 12 + 6, none⟩ = some (bV p.1.2.2.2.2.2.2.1) ∧ w.cell? ⟨g, off + i * 12 + 7, none⟩ = some (bV p.1.2.2.2.2.2.2.2) ∧
    w.cell? ⟨g, off + i * 12 + 8, none⟩ = some (.int .i64 p.2.1) ∧ w.cell? ⟨g, off + i * 12 + 9, none⟩ = some (.int .i64 p.2.2.1) ∧ w.cell? ⟨g, off + i * 12 + 10, none⟩ = some (.int .i64 p.2.2.2.1) ∧ w.cell? ⟨g, off + i * 12 + 11, none⟩ = some (.int .i64 p.2.2.2.2) := by
  obtain ⟨g, off, e, hg, hr⟩ := h i hi
  subst hp
  exact ⟨g, off, e, hg, hr 0 _ rfl, hr 1 _ rfl, hr 2 _ rfl, hr 3 _ rfl, hr 4 _ rfl, hr 5 _ rfl, hr 6 _ rfl, hr 7 _ rfl, hr 8 _ rfl, hr 9 _ rfl, hr 10 _ rfl, hr 11 _ rfl⟩
def XckEnd (w0 : World) (l : List Pl) (e : Ending) (w : World) : Prop := ∃ c : Nat, e = .returned (.int .i64 (c : Int)) ∧ (c = 0 ↔ xOk l) ∧ Below w0.heap.size w0 w
set_option maxRecDepth 100000 in
set_option maxHeartbeats 2000000 in
theorem xcheck_any (a : Option Addr) (cap : Nat) (l : List Pl) (w : World) (h : SAt 12 plC w a l) (hl : l.length ≤ 9223372036854775807) (hlt : ∀ p ∈ l, ∀ c ∈ idL p.1, c < 256) :
    Calls Try.prog 34 #[.slice a l.length cap] w (XckEnd w l) := by
  have HS := Lib.hid h
  have HLT := Lib.hid hlt
  have HP := Lib.hid fun p u => place_any p u
  have HC := Lib.hid fun x y hx hy u => icompare_any x y hx hy u
  clear h hlt
  by_cases h400 : l.length ≤ 400
  · have f1 : decide ((l.length : Int) > 400) = false := decide_eq_false (by omega)
    go_enter Try.func34, Try.ntmps34
    go_wp2_with fail
    go_loopw [11] (fun iv wr => ∃ i : Nat, i ≤ l.length ∧ iv = .int .i64 (i : Int) ∧ Below w.heap.size w wr ∧ xOk (l.take i)) (fun iv _ => l.length - (intOf iv).toNat)
    case atStart => exact ⟨0, by omega, rfl, Below.refl _ _, by simp [xOk]⟩
    case round =>
      obtain ⟨i, hi, rfl, hbr, hok⟩ := hrel
      have HBR := Lib.hid hbr
      have HOK := Lib.hid hok
      clear hbr hok
      by_cases hil : i < l.length
      · have m1 : (i : Int) < (l.length : Int) := by omega
        obtain ⟨p, hp⟩ : ∃ p, l[i] = p := ⟨_, rfl⟩
        obtain ⟨g, off, rfl, hg, k0, k1, k2, k3, k4, k5, k6, k7, k8, k9, k10, k11⟩ := (HS.out.below HBR.out).place i hil p hp
        have HMEM : Hid (p ∈ l) := by show _ ∈ _; rw [← hp]; exact List.getElem_mem hil
        have HPE := Lib.hid hp
        clear hp hg
        obtain ⟨⟨b0, b1, b2, b3, b4, b5, b6, b7⟩, k, q, n1, n2⟩ := p
        simp only [bV] at k0 k1 k2 k3 k4 k5 k6 k7 k8 k9 k10 k11
        go_wp2_with fail
        have HPP := HP.out ((b0, b1, b2, b3, b4, b5, b6, b7), k, q, n1, n2) (wr.alloc (.cells (plC ((b0, b1, b2, b3, b4, b5, b6, b7), k, q, n1, n2)).toArray 69))
        have hnew := heap_alloc_new wr (.cells (plC ((b0, b1, b2, b3, b4, b5, b6, b7), k, q, n1, n2)).toArray 69)
        have HBA := Lib.hid (HBR.out.alloc HBR.out.size (.cells (plC ((b0, b1, b2, b3, b4, b5, b6, b7), k, q, n1, n2)).toArray 69))
        unfold plV at HPP
        simp only [plC, idL, List.map_cons, List.map_nil, List.cons_append, List.nil_append, bV] at HPP hnew HBA
        refine HPP.mono ?_
        rintro e w1 ⟨c, rfl, hc, hb1⟩
        have HNEW := Lib.hid ((hb1.block _ (by simp)).trans hnew)
        have HB1 := Lib.hid (Below.step HBA.out hb1)
        clear hb1 hnew HPP HBA k0 k1 k2 k3 k4 k5 k6 k7 k8 k9 k10 k11
        by_cases hc0 : c = 0
        · have HPO := Lib.hid (hc.1 hc0)
          subst hc0
          clear hc
          cases i with
          | zero =>
            have HN : Hid (xOk (l.take (0 + 1))) := xOk_snoc HOK.out h400 hil (by rw [HPE.out]; exact HPO.out) (fun j e => by omega)
            go_wp2_with fail
            go_region
            go_wp2_with fail
            go_roundw
            case rel => exact ⟨1, by omega, by go_num, HB1.out.drew, HN.out⟩
            case measure => simp [intOf]; omega
          | succ j =>
            obtain ⟨r, hr⟩ : ∃ r, l[j] = r := ⟨_, rfl⟩
            obtain ⟨g', off', e', hg', k0, k1, k2, k3, k4, k5, k6, k7, _, _, _, _⟩ := (HS.out.below HB1.out).place j (by omega) r hr
            injection e' with e'
            injection e' with e1 e2 _
            subst e1 e2
            obtain ⟨⟨d0, d1, d2, d3, d4, d5, d6, d7⟩, k', q', n1', n2'⟩ := r
            simp only [bV] at k0 k1 k2 k3 k4 k5 k6 k7
            have t0 := cell_of_row w1 wr.heap.size 0 _ _ _ HNEW.out
            have t1 := cell_of_row w1 wr.heap.size 1 _ _ _ HNEW.out
            have t2 := cell_of_row w1 wr.heap.size 2 _ _ _ HNEW.out
            have t3 := cell_of_row w1 wr.heap.size 3 _ _ _ HNEW.out
            have t4 := cell_of_row w1 wr.heap.size 4 _ _ _ HNEW.out
            have t5 := cell_of_row w1 wr.heap.size 5 _ _ _ HNEW.out
            have t6 := cell_of_row w1 wr.heap.size 6 _ _ _ HNEW.out
            have t7 := cell_of_row w1 wr.heap.size 7 _ _ _ HNEW.out
            simp only [List.getElem?_toArray, List.getElem?_cons_zero, List.getElem?_cons_succ] at t0 t1 t2 t3 t4 t5 t6 t7
            have HRE := Lib.hid hr
            clear hr
            have hwr : IntKind.i64.wrap (j : Int) = (j : Int) := wraps_i64 _ (by omega) (by omega)
            have m4 : (j : Int) < (l.length : Int) := by omega
            have m3 : ((j : Int) + 1 > 0) := by omega
            have f3 : decide ((j : Int) + 1 > 0) = true := decide_eq_true m3
            go_wp2_with fail
            have HBD := Lib.hid HB1.out.drew
            obtain ⟨w2, hw2⟩ : ∃ w2, w2 = w1.drew := ⟨_, rfl⟩
            have K : ∀ x v, w1.cell? x = some v → w2.cell? x = some v := fun x v h => by rw [hw2]; exact h
            replace k0 := K _ _ k0
            replace k1 := K _ _ k1
            replace k2 := K _ _ k2
            replace k3 := K _ _ k3
            replace k4 := K _ _ k4
            replace k5 := K _ _ k5
            replace k6 := K _ _ k6
            replace k7 := K _ _ k7
            replace t0 := K _ _ t0
            replace t1 := K _ _ t1
            replace t2 := K _ _ t2
            replace t3 := K _ _ t3
            replace t4 := K _ _ t4
            replace t5 := K _ _ t5
            replace t6 := K _ _ t6
            replace t7 := K _ _ t7
            clear K
            rw [← hw2] at HBD
            refine wp_region_still_tail 11 (by kernel_rfl) (by kernel_rfl) ?_
            have hw3 : ({ heap := w1.heap, tape := w1.tape, drawn := w1.drawn + 1, os := w1.os, output := w1.output } : World) = w2 := hw2.symm
            rw [hw3]
            clear hw2 hw3
            simp only [List.take_succ_cons, List.take_zero, List.drop_succ_cons, List.drop_zero]
            repeat still_step
            refine wpStill_nil ?_
            have HLA : Hid (∀ c ∈ idL (b0, b1, b2, b3, b4, b5, b6, b7), c < 256) := HLT.out _ HMEM.out
            have HLB : Hid (∀ c ∈ idL (d0, d1, d2, d3, d4, d5, d6, d7), c < 256) := HLT.out (_, _, _, _, _) (HRE.out ▸ List.getElem_mem _)
            have HCC := HC.out _ _ HLA.out HLB.out w2
            unfold idV at HCC
            simp only [bV] at HCC
            have HSN : Hid (0 < cmpN (idL (b0, b1, b2, b3, b4, b5, b6, b7)) (idL (d0, d1, d2, d3, d4, d5, d6, d7)) → xOk (l.take (j + 1 + 1))) := fun h => xOk_snoc HOK.out h400 hil (by rw [HPE.out]; exact HPO.out) (fun j' e => by
              obtain rfl : j = j' := by omega
              simp only [HPE.out, HRE.out]
              exact h)
            have HNO : Hid (¬ 0 < cmpN (idL (b0, b1, b2, b3, b4, b5, b6, b7)) (idL (d0, d1, d2, d3, d4, d5, d6, d7)) → ¬ xOk l) := fun h h' => h (by
              have := h'.2.2 j hil
              simp only [HPE.out, HRE.out] at this
              exact this)
            generalize cmpN (idL (b0, b1, b2, b3, b4, b5, b6, b7)) (idL (d0, d1, d2, d3, d4, d5, d6, d7)) = cc at *
            by_cases hcc : 0 < cc
            · have f5 : decide (cc ≤ 0) = false := decide_eq_false (by omega)
              have HN := Lib.hid (HSN.out hcc)
              clear hcc
              go_wp2_with fail
              refine HCC.mono ?_
              rintro e w3 ⟨rfl, hb3⟩
              have HB3 := Lib.hid (Below.step HBD.out hb3)
              clear hb3
              go_wp2_with fail
              go_roundw
              case rel => exact ⟨j + 1 + 1, by omega, by go_num, HB3.out, HN.out⟩
              case measure => simp [intOf]; omega
            · have f5 : decide (cc ≤ 0) = true := decide_eq_true (by omega)
              have HN := Lib.hid (HNO.out hcc)
              clear hcc
              go_wp2_with fail
              refine HCC.mono ?_
              rintro e w3 ⟨rfl, hb3⟩
              have HB3 := Lib.hid (Below.step HBD.out hb3)
              clear hb3
              go_wp2_with fail
              go_ret
              exact ⟨4, rfl, by simp [HN.out], HB3.out⟩
        · have f2 : (((c : Nat) : Int) != 0) = true := by simpa using hc0
          have HN : Hid (¬ xOk l) := fun h => hc0 (hc.2 (h.2.1 _ HMEM.out))
          clear hc
          have HC0 := Lib.hid hc0
          clear hc0
          go_wp2_with fail
          go_ret
          exact ⟨c, rfl, by simp [HN.out, HC0.out], HB1.out⟩
      · have m1 : ¬ (i : Int) < (l.length : Int) := by omega
        have HN : Hid (xOk l) := by
          have h := HOK.out
          rwa [List.take_of_length_le (by omega)] at h
        go_wp2_with fail
        go_ret
        exact ⟨0, rfl, by simp [HN.out], HBR.out⟩
  · have f1 : decide ((l.length : Int) > 400) = true := decide_eq_true (by omega)
    have HN : Hid (¬ xOk l) := fun h => h400 h.1
    clear h400
    go_enter Try.func34, Try.ntmps34
    go_wp2_with fail
    go_ret
    exact ⟨2, rfl, by simp [HN.out], Below.refl _ _⟩
end Go.Proofs.Ytinjnclpiiohcaa
