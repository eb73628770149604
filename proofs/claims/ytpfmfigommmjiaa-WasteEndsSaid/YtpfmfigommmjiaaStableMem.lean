/- Rows of ints that are put in order: slices' swapRange and rotate. Printed by wip/gen_stable.py. -/
import Derived.Test.YtpfmfigommmjiaaRows
import Derived.Test.YtpfmfigommmjiaaStablePlain3
import Derived.Test.YtpfmfigommmjiaaStillAny
import Derived.Test.YtpfmfigommmjiaaRowKit
import Derived.Test.YtpfmfigommmjiaaSlices
import Derived.Test.YtpfmfigommmjiaaBits
import Derived.Test.YtpfmfigommmjiaaMem
namespace Go.Proofs.Ytpfmfigommmjiaa
open Go.RowKit Plain
set_option linter.unusedVariables false
set_option linter.unusedSimpArgs false
def nV (i : Nat) : Value := .int .i64 (i : Int)
/-- a row of numbers, with what stands behind it -/
def DR (w : World) (g : Nat) (L : List Nat) (sp : List Value) : Prop := w.heap[g]? = some (.cells (L.map nV ++ sp).toArray 3 (0, 0))
theorem DR.cell {w : World} {g : Nat} {L : List Nat} {sp : List Value} (h : DR w g L sp) {p x : Nat} (hp : L[p]? = some x) : w.cell? ⟨g, p, none⟩ = some (.int .i64 (x : Int)) := by
  have hl := (List.getElem?_eq_some_iff.1 hp).1
  rw [cell_of_row _ _ p _ _ _ h, List.getElem?_toArray, List.getElem?_append_left (by simpa using hl), List.getElem?_map, hp]
  rfl
theorem DR.frozen {w : World} {g : Nat} {L : List Nat} {sp : List Value} (h : DR w g L sp) (p : Nat) : w.frozen? ⟨g, p, none⟩ = false := frozen_of_row w g p _ _ h
theorem DR.set {w : World} {g : Nat} {L : List Nat} {sp : List Value} (h : DR w g L sp) (p x : Nat) (hp : p < L.length) : DR (w.setCell ⟨g, p, none⟩ (.int .i64 (x : Int))) g (L.set p x) sp := by
  unfold DR
  rw [heap_setCell_same w g p _ _ _ h, List.setIfInBounds_toArray, List.set_append_left _ _ (by simpa using hp), List.map_set]
  rfl
theorem DR.drew {w : World} {g : Nat} {L : List Nat} {sp : List Value} (h : DR w g L sp) : DR w.drew g L sp := h
theorem DR.below {w u : World} {g : Nat} {L : List Nat} {sp : List Value} (h : DR w g L sp) (hb : Below w.heap.size w u) : DR u g L sp := (hb.block g (Array.getElem?_eq_some_iff.1 h).1).trans h
/-- all blocks but one lie as they lay -/
def GX (g : Nat) (w w' : World) : Prop := w.grownBy w' (some g)
theorem GX.refl (g : Nat) (w : World) : GX g w w := ⟨rfl, rfl, rfl, Nat.le_refl _, fun _ _ _ => rfl⟩
theorem GX.trans {g : Nat} {a b c : World} (h : GX g a b) (k : GX g b c) : GX g a c := ⟨k.os.trans h.os, k.tape.trans h.tape, k.output.trans h.output, Nat.le_trans h.size k.size, fun i hi hn => (k.block i (Nat.lt_of_lt_of_le hi h.size) hn).trans (h.block i hi hn)⟩
theorem GX.set {g : Nat} {a b : World} (h : GX g a b) (p : Nat) (v : Value) : GX g a (b.setCell ⟨g, p, none⟩ v) := by
  refine h.trans ⟨rfl, rfl, rfl, ?_, fun k _ hk => Below.heap_setCell _ _ _ _ (fun e => hk (by rw [e]))⟩
  simp [World.setCell]
theorem GX.drew {g : Nat} {a b : World} (h : GX g a b) : GX g a b.drew := ⟨h.os, h.tape, h.output, h.size, h.block⟩
theorem GX.of_below {g : Nat} {a b : World} (h : Below a.heap.size a b) : GX g a b := ⟨h.os, h.tape, h.output, h.size, fun k hk _ => h.block k hk⟩
theorem GX.step {g : Nat} {a b c : World} (h : GX g a b) (k : Below b.heap.size b c) : GX g a c := h.trans (.of_below k)
set_option maxRecDepth 100000 in
set_option maxHeartbeats 4000000 in
theorem swapRange_any (g n cap a b c : Nat) (fv : Value) (L : List Nat) (sp : List Value) (w : World) (hd : DR w g L sp) (hn : L.length = n) (hs : n ≤ 1000000) (h1 : a + c ≤ b) (h2 : b + c ≤ n) :
    Calls Try.prog 23 #[.slice (some ⟨g, 0, none⟩) n cap, .int .i64 (a : Int), .int .i64 (b : Int), .int .i64 (c : Int), fv] w fun e w' => e = .returned (.tuple #[]) ∧ ∃ L', Swp L L' a b c ∧ DR w' g L' sp ∧ GX g w w' := by
  have HD := Lib.hid hd
  have HN := Lib.hid hn
  clear hd hn
  go_enter Try.func23, Try.ntmps23
  go_wp2_with fail
  go_loopw [10] (fun kv wr => ∃ (k : Nat) (L' : List Nat), k ≤ c ∧ kv = .int .i64 (k : Int) ∧ Hid (Swp L L' a b k) ∧ Hid (DR wr g L' sp) ∧ Hid (GX g w wr)) (fun kv _ => c - (intOf kv).toNat)
  case atStart => exact ⟨0, L, Nat.zero_le _, rfl, Lib.hid (Swp.refl L a b), HD, Lib.hid (GX.refl g w)⟩
  case round =>
    obtain ⟨k, L', hk, rfl, HSW, HDR, HGX⟩ := hrel
    by_cases hlt : k < c
    · have m1 : (k : Int) < (c : Int) := by omega
      have hll : L'.length = n := HSW.out.1.trans HN.out
      obtain ⟨p, hp⟩ : ∃ p, p = a + k := ⟨_, rfl⟩
      obtain ⟨q, hq⟩ : ∃ q, q = b + k := ⟨_, rfl⟩
      have hpn : p < n := by omega
      have hqn : q < n := by omega
      obtain ⟨x, hx⟩ : ∃ x, L'[p]? = some x := ⟨_, List.getElem?_eq_getElem (by omega)⟩
      obtain ⟨y, hy⟩ : ∃ y, L'[q]? = some y := ⟨_, List.getElem?_eq_getElem (by omega)⟩
      have HSN : Hid (Swp L ((L'.set p y).set q x) a b (k + 1)) := Lib.hid (by
        rw [hp, hq] at *
        exact HSW.out.step (by omega) (by rw [HN.out]; omega) hx hy)
      have HD3 : Hid (DR wr.drew g L' sp) := HDR
      have HG3 := Lib.hid HGX.out.drew
      have cp := HD3.out.cell hx
      have cq := HD3.out.cell hy
      have fp := HD3.out.frozen p
      have hd4 := HD3.out.set p y (by omega)
      have cq2 := hd4.cell (p := q) (x := y) (by rw [List.getElem?_set_ne (by omega)]; exact hy)
      have fq2 := hd4.frozen q
      have HD5 := Lib.hid (hd4.set q x (by rw [List.length_set]; omega))
      have HG5 := Lib.hid ((HG3.out.set p (.int .i64 (y : Int))).set q (.int .i64 (x : Int)))
      have w1 : IntKind.i64.wrap ((a : Int) + (k : Int)) = (p : Int) := by rw [wraps_i64 _ (by omega) (by omega)]; omega
      have w2 : IntKind.i64.wrap ((b : Int) + (k : Int)) = (q : Int) := by rw [wraps_i64 _ (by omega) (by omega)]; omega
      have p0 : (0 : Int) ≤ (p : Int) := Int.natCast_nonneg _
      have q0 : (0 : Int) ≤ (q : Int) := Int.natCast_nonneg _
      have p1 : (p : Int) < (n : Int) := by omega
      have q1 : (q : Int) < (n : Int) := by omega
      clear hd4 hx hy hp hq hll
      go_wp2_with fail
      refine wp_region_any (by kernel_rfl) ?_
      have hw3 : ({ heap := wr.heap, tape := wr.tape, drawn := wr.drawn + 1, os := wr.os, output := wr.output } : World) = wr.drew := rfl
      rw [hw3]
      clear hw3
      generalize wr.drew = w3 at *
      refine wpAny_take (i := 0) (v := .slice (some ⟨g, 0, none⟩) n cap) rfl (by kernel_rfl) (by kernel_rfl) (by kernel_rfl) (fun _ _ _ h => h) (Or.inl ⟨by rfl, fun wz => by go_simp⟩) ?_
      refine wpAny_take (i := 1) (v := .int .i64 (a : Int)) rfl (by kernel_rfl) (by kernel_rfl) (by kernel_rfl) (fun _ _ _ h => h) (Or.inl ⟨by rfl, fun wz => by go_simp⟩) ?_
      refine wpAny_take (i := 2) (v := .int .i64 (k : Int)) rfl (by kernel_rfl) (by kernel_rfl) (by kernel_rfl) (fun _ _ _ h => h) (Or.inl ⟨by rfl, fun wz => by go_simp⟩) ?_
      refine wpAny_take (i := 3) (v := .int .i64 (p : Int)) rfl (by kernel_rfl) (by kernel_rfl) (by kernel_rfl) (fun _ _ _ h => h) (Or.inl ⟨by rfl, fun wz => by go_simp⟩) ?_
      refine wpAny_take (i := 4) (v := .slice (some ⟨g, 0, none⟩) n cap) rfl (by kernel_rfl) (by kernel_rfl) (by kernel_rfl) (fun _ _ _ h => h) (Or.inl ⟨by rfl, fun wz => by go_simp⟩) ?_
      refine wpAny_take (i := 5) (v := .int .i64 (b : Int)) rfl (by kernel_rfl) (by kernel_rfl) (by kernel_rfl) (fun _ _ _ h => h) (Or.inl ⟨by rfl, fun wz => by go_simp⟩) ?_
      refine wpAny_take (i := 6) (v := .int .i64 (k : Int)) rfl (by kernel_rfl) (by kernel_rfl) (by kernel_rfl) (fun _ _ _ h => h) (Or.inl ⟨by rfl, fun wz => by go_simp⟩) ?_
      refine wpAny_take (i := 7) (v := .int .i64 (q : Int)) rfl (by kernel_rfl) (by kernel_rfl) (by kernel_rfl) (fun _ _ _ h => h) (Or.inl ⟨by rfl, fun wz => by go_simp⟩) ?_
      refine wpAny_head [8, 9, 10, 11, 12, 13, 14, 15, 16, 17, 18, 19] (fun L => (L.take 20).drop 8) 4 (fun _ => True) rfl (by kernel_rfl) (by kernel_rfl) (by kernel_rfl) (by kernel_rfl) (by kernel_rfl) rfl ?_
      simp only [List.take_succ_cons, List.take_zero, List.drop_succ_cons, List.drop_zero, List.cons_append, List.nil_append]
      repeat still_step
      refine wpStill_nil ?_
      refine take_val 20 (.pointer (some ⟨g, p, none⟩)) rfl (by kernel_rfl) (by kernel_rfl) (by kernel_rfl) (fun _ _ _ _ h => h) (by rfl) rfl (fun wz hS => by go_simp) trivial ?_
      try simp only [List.set_cons_zero, List.set_cons_succ]
      refine one_ready 21 (by kernel_rfl) rfl (by rfl) (fun K hK => ?_)
      refine wp_store_1 3 _ _ rfl g p (.int .i64 (y : Int)) rfl rfl rfl (by rw [cp]; rfl) fp (by kernel_rfl) rfl ?_
      refine hK.out _ _ trivial ?_
      simp only [Act.put]
      clear hK K
      refine take_val 22 (.pointer (some ⟨g, q, none⟩)) rfl (by kernel_rfl) (by kernel_rfl) (by kernel_rfl) (fun _ _ _ _ h => h) (by rfl) rfl (fun wz hS => by go_simp) trivial ?_
      try simp only [List.set_cons_zero, List.set_cons_succ]
      refine one_ready 23 (by kernel_rfl) rfl (by rfl) (fun K hK => ?_)
      refine wp_store_1 3 _ _ rfl g q (.int .i64 (x : Int)) rfl rfl rfl (by rw [cq2]; rfl) fq2 (by kernel_rfl) rfl ?_
      refine hK.out _ _ trivial ?_
      simp only [Act.put]
      clear hK K
      refine wpAnyH_done (by kernel_rfl) ?_ _
      simp only [Exit.inBlock, Exit.then]
      rename_i HKK
      refine HKK _ _ ?_
      clear HKK
      go_wp2_with fail
      go_roundw
      case rel => exact ⟨k + 1, _, hlt, by go_num, HSN, HD5, HG5⟩
      case measure => simp [intOf]; omega
    · have m1 : ¬ (k : Int) < (c : Int) := by omega
      obtain rfl : k = c := by omega
      go_wp2_with fail
      go_end0
      exact ⟨rfl, L', HSW.out, HDR.out, HGX.out⟩
set_option maxRecDepth 100000 in
set_option maxHeartbeats 4000000 in
theorem rotate_any (g n cap a m b : Nat) (fv : Value) (A u0 v0 C : List Nat) (sp : List Value) (w : World) (hd : DR w g (A ++ (u0 ++ (v0 ++ C))) sp) (hn : (A ++ (u0 ++ (v0 ++ C))).length = n) (hs : n ≤ 1000000) (ha : A.length = a) (hm : a + u0.length = m) (hb : m + v0.length = b) (hu : u0 ≠ []) (hv : v0 ≠ []) :
    Calls Try.prog 22 #[.slice (some ⟨g, 0, none⟩) n cap, .int .i64 (a : Int), .int .i64 (m : Int), .int .i64 (b : Int), fv] w fun e w' => e = .returned (.tuple #[]) ∧ DR w' g (A ++ (v0 ++ (u0 ++ C))) sp ∧ GX g w w' := by
  have HD := Lib.hid hd
  have HN := Lib.hid hn
  have hul := List.length_pos_iff.2 hu
  have hvl := List.length_pos_iff.2 hv
  have hnn : a + u0.length + v0.length + C.length = n := by rw [← hn, ← ha]; simp only [List.length_append]; omega
  have w1 : IntKind.i64.wrap ((m : Int) - (a : Int)) = (u0.length : Int) := by rw [wraps_i64 _ (by omega) (by omega)]; omega
  have w2 : IntKind.i64.wrap ((b : Int) - (m : Int)) = (v0.length : Int) := by rw [wraps_i64 _ (by omega) (by omega)]; omega
  have HA := Lib.hid ha
  have HM := Lib.hid hm
  have HB := Lib.hid hb
  have HUV := Lib.hid (And.intro hul hvl)
  have HNN := Lib.hid hnn
  clear hd hn ha hm hb hu hv hul hvl hnn
  go_enter Try.func22, Try.ntmps22
  go_wp2_with fail
  clear w1 w2
  go_loopw [10, 11] (fun iv jv wr => ∃ (P u v Q : List Nat), iv = .int .i64 (u.length : Int) ∧ jv = .int .i64 (v.length : Int) ∧ Hid (0 < u.length ∧ 0 < v.length) ∧ Hid (P.length + u.length = m) ∧ Hid (P ++ (v ++ (u ++ Q)) = A ++ (v0 ++ (u0 ++ C))) ∧ Hid (DR wr g (P ++ (u ++ (v ++ Q))) sp) ∧ Hid (GX g w wr)) (fun iv jv _ => (intOf iv).toNat + (intOf jv).toNat)
  case atStart => exact ⟨A, u0, v0, C, rfl, rfl, HUV, Lib.hid (by rw [HA.out]; exact HM.out), Lib.hid rfl, HD, Lib.hid (GX.refl g w)⟩
  case round =>
    obtain ⟨P, u, v, Q, rfl, rfl, HUVP, HPM, HTG, HDR, HGX⟩ := hrel
    have hup := HUVP.out.1
    have hvp := HUVP.out.2
    have hpm := HPM.out
    have hln : P.length + u.length + v.length + Q.length = n := by
      have h1 := congrArg List.length HTG.out
      simp only [List.length_append] at h1
      have := HNN.out
      have := HA.out
      omega
    have HLN : Hid ((P ++ (u ++ (v ++ Q))).length = n) := Lib.hid (by simp only [List.length_append]; omega)
    rcases Nat.lt_trichotomy u.length v.length with hlt | heq | hgt
    · have d1 : ((u.length : Int) != (v.length : Int)) = true := by simp; omega
      have d2 : ¬ (v.length : Int) < (u.length : Int) := by omega
      obtain ⟨v1, v2, hvv, hv2⟩ : ∃ v1 v2, v = v1 ++ v2 ∧ v2.length = u.length := ⟨v.take (v.length - u.length), v.drop (v.length - u.length), (List.take_append_drop _ _).symm, by rw [List.length_drop]; omega⟩
      have hv1 : v1.length + u.length = v.length := by rw [hvv, List.length_append, hv2]
      obtain ⟨x, hx⟩ : ∃ x, x = m - u.length := ⟨_, rfl⟩
      obtain ⟨y, hy⟩ : ∃ y, y = m + v.length - u.length := ⟨_, rfl⟩
      have w1 : IntKind.i64.wrap ((m : Int) - (u.length : Int)) = (x : Int) := by rw [wraps_i64 _ (by omega) (by omega)]; omega
      have w2 : IntKind.i64.wrap ((m : Int) + (v.length : Int)) = (m : Int) + (v.length : Int) := wraps_i64 _ (by omega) (by omega)
      have w3 : IntKind.i64.wrap ((m : Int) + (v.length : Int) - (u.length : Int)) = (y : Int) := by rw [wraps_i64 _ (by omega) (by omega)]; omega
      have w4 : IntKind.i64.wrap ((v.length : Int) - (u.length : Int)) = (v1.length : Int) := by rw [wraps_i64 _ (by omega) (by omega)]; omega
      have HSR := Lib.hid (swapRange_any g n cap x y u.length fv _ sp wr HDR.out HLN.out hs (by omega) (by omega))
      have HX : Hid (x = P.length) := Lib.hid (by omega)
      have HY : Hid (y = P.length + u.length + v1.length) := Lib.hid (by omega)
      have HV2 := Lib.hid hv2
      have HVV := Lib.hid hvv
      have HV1 : Hid (0 < v1.length) := Lib.hid (by omega)
      clear hup hvp hpm hln hv2 hvv hv1 hx hy
      go_wp2_with fail
      refine HSR.out.mono ?_
      rintro e w5 ⟨rfl, L', hsw, hd5, hg5⟩
      have HE : Hid (L' = P ++ (v2 ++ (v1 ++ (u ++ Q)))) := Lib.hid (by
        rw [HVV.out, List.append_assoc, HX.out, HY.out] at hsw
        exact hsw.parts HV2.out.symm)
      rw [HE.out] at hd5
      have HD5 := Lib.hid hd5
      have HG5 := Lib.hid (HGX.out.trans hg5)
      clear hsw hd5 hg5
      go_wp2_with fail
      go_roundw
      case rel => exact ⟨P, v2, v1, u ++ Q, by rw [HV2.out], rfl, Lib.hid ⟨by rw [HV2.out]; exact HUVP.out.1, HV1.out⟩, Lib.hid (by rw [HV2.out]; exact HPM.out), Lib.hid (by rw [← HTG.out, HVV.out]; simp only [List.append_assoc]), HD5, HG5⟩
      case measure => simp [intOf]; have := HVV.out; have := HV2.out; have := HUVP.out; rw [HVV.out]; simp only [List.length_append]; omega
    · have d1 : ((u.length : Int) != (v.length : Int)) = false := by simp [heq]
      obtain ⟨x, hx⟩ : ∃ x, x = m - u.length := ⟨_, rfl⟩
      have w1 : IntKind.i64.wrap ((m : Int) - (u.length : Int)) = (x : Int) := by rw [wraps_i64 _ (by omega) (by omega)]; omega
      have HSR := Lib.hid (swapRange_any g n cap x m u.length fv _ sp wr HDR.out HLN.out hs (by omega) (by omega))
      have HX : Hid (x = P.length) := Lib.hid (by omega)
      have HY : Hid (m = P.length + u.length + ([] : List Nat).length) := Lib.hid (by simp; omega)
      have HEQ := Lib.hid heq
      clear hup hvp hpm hln hx heq
      go_wp2_with fail
      refine HSR.out.mono ?_
      rintro e w5 ⟨rfl, L', hsw, hd5, hg5⟩
      have HE : Hid (L' = A ++ (v0 ++ (u0 ++ C))) := Lib.hid (by
        rw [← HTG.out]
        have h : Swp (P ++ (u ++ (([] : List Nat) ++ (v ++ Q)))) L' P.length (P.length + u.length + ([] : List Nat).length) u.length := by
          rw [← HY.out, ← HX.out]; exact hsw
        have := h.parts HEQ.out
        simpa using this)
      rw [HE.out] at hd5
      have HD5 := Lib.hid hd5
      have HG5 := Lib.hid (HGX.out.trans hg5)
      clear hsw hd5 hg5
      go_wp2_with fail
      go_end0
      exact ⟨rfl, HD5.out, HG5.out⟩
    · have d1 : ((u.length : Int) != (v.length : Int)) = true := by simp; omega
      have d2 : (v.length : Int) < (u.length : Int) := by omega
      obtain ⟨u1, u2, huu, hu1⟩ : ∃ u1 u2, u = u1 ++ u2 ∧ u1.length = v.length := ⟨u.take v.length, u.drop v.length, (List.take_append_drop _ _).symm, by rw [List.length_take]; omega⟩
      have hu2 : u2.length + v.length = u.length := by rw [huu, List.length_append, hu1]; omega
      obtain ⟨x, hx⟩ : ∃ x, x = m - u.length := ⟨_, rfl⟩
      have w1 : IntKind.i64.wrap ((m : Int) - (u.length : Int)) = (x : Int) := by rw [wraps_i64 _ (by omega) (by omega)]; omega
      have w4 : IntKind.i64.wrap ((u.length : Int) - (v.length : Int)) = (u2.length : Int) := by rw [wraps_i64 _ (by omega) (by omega)]; omega
      have HSR := Lib.hid (swapRange_any g n cap x m v.length fv _ sp wr HDR.out HLN.out hs (by omega) (by omega))
      have HX : Hid (x = P.length) := Lib.hid (by omega)
      have HY : Hid (m = P.length + v.length + u2.length) := Lib.hid (by omega)
      have HU1 := Lib.hid hu1
      have HUU := Lib.hid huu
      have HU2 : Hid (0 < u2.length) := Lib.hid (by omega)
      clear hup hvp hpm hln hu1 huu hu2 hx
      go_wp2_with fail
      refine HSR.out.mono ?_
      rintro e w5 ⟨rfl, L', hsw, hd5, hg5⟩
      have HE : Hid (L' = P ++ (v ++ (u2 ++ (u1 ++ Q)))) := Lib.hid (by
        have h : Swp (P ++ (u1 ++ (u2 ++ (v ++ Q)))) L' P.length (P.length + u1.length + u2.length) u1.length := by
          rw [HU1.out, ← HY.out, ← HX.out]
          have := hsw
          rw [HUU.out, List.append_assoc] at this
          exact this
        exact h.parts HU1.out)
      rw [HE.out] at hd5
      have HD5 := Lib.hid hd5
      have HG5 := Lib.hid (HGX.out.trans hg5)
      clear hsw hd5 hg5
      go_wp2_with fail
      go_roundw
      case rel => exact ⟨P ++ v, u2, u1, Q, rfl, by rw [HU1.out], Lib.hid ⟨HU2.out, by rw [HU1.out]; exact HUVP.out.2⟩, Lib.hid (by rw [List.length_append]; exact HY.out.symm), Lib.hid (by rw [← HTG.out, HUU.out]; simp only [List.append_assoc]), Lib.hid (by have := HD5.out; rwa [List.append_assoc]), HG5⟩
      case measure => simp [intOf]; have := HU1.out; have := HUVP.out; rw [HUU.out]; simp only [List.length_append]; omega
end Go.Proofs.Ytpfmfigommmjiaa
