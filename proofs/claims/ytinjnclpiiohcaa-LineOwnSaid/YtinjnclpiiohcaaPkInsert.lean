/- The walk of slices.Insert over packets, one packet put in. -/
import Derived.Test.YtinjnclpiiohcaaPkBase
import Derived.Test.YtinjnclpiiohcaaOwnSet
import Derived.Test.YtinjnclpiiohcaaAmpleGen
import Derived.Shelf.Spec.SlicesInsertGrow
namespace Go.Proofs.Ytinjnclpiiohcaa
open Go.RowKit Plain
set_option linter.unusedVariables false
set_option linter.unusedSimpArgs false
theorem run_copy_k {P : Program} (w : World) (dT sT ty elem : TypeId) (k m b o dLen dCap : Nat) (a : Addr) (sLen sCap : Nat) (cs : List Value)
    (hu : P.underlying dT = some (.slice elem)) (hs : (P.info? elem).map (·.size) = some k) (hm : Nat.min sLen dLen = m) (hn : cs.length = m * k)
    (hsrc : ∀ j v, cs[j]? = some v → w.cell? (a.add j) = some v) (hc : ∀ j, j < cs.length → (w.cell? ⟨b, o + j, none⟩).isSome = true) (hf : ∀ j, j < cs.length → w.frozen? ⟨b, o + j, none⟩ = false) (h1 : ∀ v ∈ cs, v.oneCell' = true) :
    (Builtin.copy_ #[dT, sT] ty #[.slice (some ⟨b, o, none⟩) dLen dCap, .slice (some a) sLen sCap]).run P w = .ok (goInt m) (w.setCells b o cs) := by
  have hl := run_loadCells_list (P := P) w a cs hsrc
  have hst := run_storeCells_cells (P := P) b o cs 0 w (by simpa using hc) (by simpa using hf) h1
  cases hq : P.info? elem with
  | none => simp [hq] at hs
  | some i =>
    have hi : i.size = k := by simpa [hq] using hs
    rw [hn] at hl
    simp [Builtin.copy_, run_underlying hu, Builtin.lenOf, Builtin.firstCells, sizeOf, typeInfo, hq, hi, hm, hl, hst]
theorem own_longer {w : World} {base g cap n k : Nat} {T : TypeId} {xs : List Value} (h : w.ownsRow base T k (.slice (some ⟨g, 0, none⟩) n cap) n xs) (m : Nat) (hm : m ≤ cap) (hnm : n ≤ m) : ∃ ys, ys.length = m * k ∧ ys.take (n * k) = xs ∧ w.ownsRow base T k (.slice (some ⟨g, 0, none⟩) m cap) m ys := by
  rcases h.2 with ⟨e0, _⟩ | ⟨g', cap', cur, e0, hb, hg, hn, hmx, hs, ht⟩
  · cases e0
  · injection e0 with e1 _ e3
    injection e1 with e1
    injection e1 with e1
    subst e1 e3
    have hmk : m * k ≤ cap * k := Nat.mul_le_mul_right _ hm
    have hnk : n * k ≤ m * k := Nat.mul_le_mul_right _ hnm
    have hlen : (cur.toList.take (m * k)).length = m * k := by rw [List.length_take, Array.length_toList]; omega
    exact ⟨cur.toList.take (m * k), hlen, by rw [List.take_take, Nat.min_eq_left hnk]; exact ht, hlen, .inr ⟨g, cap, cur, rfl, hb, hg, hm, hmx, hs, rfl⟩⟩
/-- the row with one element put in at i -/
theorem put_flat (l : List PkT) (x : PkT) (i : Nat) (hi : i ≤ l.length) : (l.take i).flatMap pkC ++ (pkC x ++ (l.drop i).flatMap pkC) = (l.take i ++ x :: l.drop i).flatMap pkC := by
  rw [List.flatMap_append, List.flatMap_cons]
theorem ins_inner {l : List PkT} {x : PkT} {ys : List Value} {i : Nat} (hi : i < l.length) (hy : ys.take (l.length * 3) = l.flatMap pkC) (hl : ys.length = (l.length + 1) * 3) :
    (ys.take ((i + 1) * 3) ++ ((l.drop i).flatMap pkC ++ ys.drop ((i + 1) * 3 + ((l.drop i).flatMap pkC).length))).take (i * 3) ++ (pkC x ++ (ys.take ((i + 1) * 3) ++ ((l.drop i).flatMap pkC ++ ys.drop ((i + 1) * 3 + ((l.drop i).flatMap pkC).length))).drop (i * 3 + (pkC x).length)) = (l.take i ++ x :: l.drop i).flatMap pkC := by
  have hd : ((l.drop i).flatMap pkC).length = (l.length - i) * 3 := by rw [flat_length pkC_length, List.length_drop]
  have h1 : ys.drop ((i + 1) * 3 + ((l.drop i).flatMap pkC).length) = [] := List.drop_of_length_le (by rw [hd, hl]; omega)
  have h2 : (ys.take ((i + 1) * 3)).length = (i + 1) * 3 := by rw [List.length_take, hl]; omega
  have h3 : ys.take (i * 3) = (l.take i).flatMap pkC := by
    rw [← flat_take pkC_length l i (by omega), ← hy, List.take_take, Nat.min_eq_left (by omega)]
  rw [h1, List.append_nil, List.take_append_of_le_length (by rw [h2]; omega), List.take_take, Nat.min_eq_left (by omega), h3, ← put_flat l x i (by omega)]
  congr 2
  rw [List.drop_append, h2, List.drop_of_length_le (by rw [h2, pkC_length]; omega), List.nil_append, pkC_length, show i * 3 + 3 - (i + 1) * 3 = 0 by omega, List.drop_zero]
theorem grow_list {R A X D : List Value} {a : Nat} (hA : R.take a = A) (ha : A.length = a) (hX : X.length = 3) (hl : R.length = a + 3 + D.length) :
    (R.take a ++ (X ++ R.drop (a + X.length))).take (a + 3) ++ (D ++ (R.take a ++ (X ++ R.drop (a + X.length))).drop (a + 3 + D.length)) = A ++ (X ++ D) := by
  rw [hA, hX]
  have h1 : (A ++ (X ++ R.drop (a + 3))).take (a + 3) = A ++ X := by
    rw [← List.append_assoc, List.take_append_of_le_length (by rw [List.length_append, ha, hX]; exact Nat.le_refl _), List.take_of_length_le (by rw [List.length_append, ha, hX]; exact Nat.le_refl _)]
  have h2 : (A ++ (X ++ R.drop (a + 3))).drop (a + 3 + D.length) = [] := List.drop_of_length_le (by rw [List.length_append, List.length_append, List.length_drop, ha, hX, hl]; omega)
  rw [h1, h2, List.append_nil, List.append_assoc]
def InsEnd (base g : Nat) (w0 : World) (l : List PkT) (i : Nat) (x : PkT) (e : Ending) (w : World) : Prop := w0.grownBy w (some g) ∧ ∃ a c, e = .returned (.slice a (l.length + 1) c) ∧ w.ownsRow base 30 3 (.slice a (l.length + 1) c) (l.length + 1) ((l.take i ++ x :: l.drop i).flatMap pkC)
set_option maxRecDepth 100000 in
set_option maxHeartbeats 4000000 in
theorem insertIn_any (base g cap vb : Nat) (l : List PkT) (i : Nat) (x : PkT) (w : World) (h : w.ownsRow base 30 3 (.slice (some ⟨g, 0, none⟩) l.length cap) l.length (l.flatMap pkC)) (hv : w.heap[vb]? = some (.cells (pkC x).toArray 30 (0, 0))) (hne : vb ≠ g) (hi : i < l.length) (hl : l.length ≤ 8) (hroom : l.length + 1 ≤ cap) :
    Calls Try.prog 53 #[.slice (some ⟨g, 0, none⟩) l.length cap, .int .i64 (i : Int), .slice (some ⟨vb, 0, none⟩) 1 1] w (InsEnd base g w l i x) := by
  obtain ⟨hbg, hgw, hnc, hc63, cur, hg, hs, ht⟩ := own_block h
  obtain ⟨ys, hyl, hyt, hown⟩ := own_longer h (l.length + 1) hroom (Nat.le_succ _)
  have hsz : (Try.prog.info? 30).map (·.size) = some 3 := by kernel_rfl
  have hz1 : ¬ ((1 : Int) = 0) := by omega
  have hz2 : ¬ ((i : Int) = (l.length : Int)) := by omega
  have hov : ∀ lb cb, (callFunc 68 #[.slice (some ⟨vb, 0, none⟩) 1 1, .slice (some ⟨g, (i + 1) * 3, none⟩) lb cb]).run Try.prog w = .ok (.value (.bool false)) w := fun lb cb => by
    rw [run_callFunc_extern Try.func68 (by kernel_rfl) (by kernel_rfl) (by kernel_rfl) (e := Extern.SlicesOverlaps.overlaps #[26, 26] #[4]) (by kernel_rfl),
      Lib.run_overlaps_apart w 26 4 30 Try.underlying26 3 (fun w => by kernel_rfl) ⟨vb, 0, none⟩ ⟨g, (i + 1) * 3, none⟩ 1 1 lb cb hne 30 30 3 cur.size (by simp only [World.shape?, hv]; rfl) (by simp only [World.shape?, hg]) (by rw [hs]; omega) (frozen_of_row _ _ _ _ _ hv) (frozen_of_row _ _ _ _ _ hv)]
    rfl
  have hdl : ((l.drop i).flatMap pkC).length = (l.length - i) * 3 := by rw [flat_length pkC_length, List.length_drop]
  have hcell : ∀ j, j < (l.length + 1) * 3 → (w.cell? ⟨g, j, none⟩).isSome = true := fun j hj => by
    have : (l.length + 1) * 3 ≤ cap * 3 := Nat.mul_le_mul_right _ hroom
    rw [cell_of_row _ _ _ _ _ _ hg, Array.getElem?_eq_getElem (by omega)]
    rfl
  have hsrc : ∀ j v, ((l.drop i).flatMap pkC)[j]? = some v → w.cell? ((⟨g, i * 3, none⟩ : Addr).add j) = some v := fun j v hj => by
    have hlt : j < (l.length - i) * 3 := by
      rcases Nat.lt_or_ge j ((l.length - i) * 3) with h | h
      · exact h
      · rw [List.getElem?_eq_none (by rw [hdl]; exact h)] at hj; cases hj
    have e : (l.drop i).flatMap pkC = (l.flatMap pkC).drop (i * 3) := by
      have := flat_take pkC_length l i (by omega)
      have h2 : l.flatMap pkC = (l.take i).flatMap pkC ++ (l.drop i).flatMap pkC := by rw [← List.flatMap_append, List.take_append_drop]
      rw [h2, List.drop_left' (by rw [flat_length pkC_length, List.length_take]; omega)]
    rw [e, List.getElem?_drop, ← ht, List.getElem?_take, if_pos (by omega), Array.getElem?_toList] at hj
    rw [Addr.add_lit, cell_of_row _ _ _ _ _ _ hg]
    exact hj
  have hw1 : IntKind.i64.wrap ((i : Int) + 1) = (i : Int) + 1 := by rw [IntKind.wrap_i64]; omega
  have hb1 : (0 : Int) ≤ (i : Int) + 1 := by omega
  have hb1' : ¬ ((i : Int) + 1 < 0) := by omega
  have hb0 : (0 : Int) ≤ (i : Int) := by omega
  have htn : ((i : Int) + 1).toNat = i + 1 := by omega
  have hb2 : ¬ (cap = i + 1) := by omega
  have hb3 : (i : Int) ≤ (l.length : Int) + 1 := by omega
  have hb4 : ¬ (cap = i) := by omega
  have hb5 : ¬ ((l.length : Int) + 1 > (cap : Int)) := by omega
  have hb6 : (l.length : Int) + 1 ≤ (cap : Int) := by omega
  have hb7 : (i : Int) + 1 ≤ (l.length : Int) + 1 := by omega
  have hb8 : (i : Int) ≤ (l.length : Int) := by omega
  have hb9 : ((l.length : Int) + 1).toNat = l.length + 1 := by omega
  have hwl : IntKind.i64.wrap ((l.length : Int) + 1) = (l.length : Int) + 1 := by rw [IntKind.wrap_i64]; omega
  have hcp1 : ∀ ty dc sc, (Builtin.copy_ #[26, 26] ty #[.slice (some ⟨g, (i + 1) * 3, none⟩) (l.length - i) dc, .slice (some ⟨g, i * 3, none⟩) (l.length + 1 - i) sc]).run Try.prog w.drew = .ok (goInt ((l.length - i : Nat) : Int)) (w.drew.setCells g ((i + 1) * 3) ((l.drop i).flatMap pkC)) := fun ty dc sc =>
    run_copy_k w.drew _ _ ty 30 3 (l.length - i) g ((i + 1) * 3) (l.length - i) dc ⟨g, i * 3, none⟩ (l.length + 1 - i) sc ((l.drop i).flatMap pkC) Try.underlying26 hsz (by simp only [Nat.min_def]; split <;> omega) hdl hsrc
      (fun j hj => by rw [hdl] at hj; exact hcell _ (by omega)) (fun j hj => frozen_of_row _ _ _ _ _ hg) (fun v hv => by
        obtain ⟨p, _, hp⟩ := List.mem_flatMap.1 hv
        exact pkC_one p v hp)
  obtain ⟨W1, hW1⟩ : ∃ W1, W1 = w.drew.setCells g ((i + 1) * 3) ((l.drop i).flatMap pkC) := ⟨_, rfl⟩
  have hownd : w.drew.ownsRow base 30 3 (.slice (some ⟨g, 0, none⟩) (l.length + 1) cap) (l.length + 1) ys := hown
  have hown1 := own_setCells hownd ((i + 1) * 3) ((l.drop i).flatMap pkC) (by rw [hdl, hyl]; omega)
  rw [← hW1] at hown1 hcp1
  have hvW : W1.heap[vb]? = some (.cells (pkC x).toArray 30 (0, 0)) := by
    rw [hW1, heap_setCells_other _ _ hne]
    exact hv
  have hcp2 : ∀ ty dc, (Builtin.copy_ #[26, 26] ty #[.slice (some ⟨g, i * 3, none⟩) (l.length + 1 - i) dc, .slice (some ⟨vb, 0, none⟩) 1 1]).run Try.prog W1 = .ok (goInt 1) (W1.setCells g (i * 3) (pkC x)) := fun ty dc => by
    obtain ⟨_, _, _, _, cur1, hg1, hs1, _⟩ : base ≤ g ∧ True ∧ True ∧ True ∧ ∃ cur1, W1.heap[g]? = some (.cells cur1 30 (0, 0)) ∧ cur1.size = cap * 3 ∧ True := by
      rcases hown1.2 with ⟨e0, _⟩ | ⟨g', cap', cur1, e0, hb, hg', _, _, hs', _⟩
      · cases e0
      · injection e0 with e1 _ e3
        injection e1 with e1
        injection e1 with e1
        subst e1 e3
        exact ⟨hb, trivial, trivial, trivial, cur1, hg', hs', trivial⟩
    refine run_copy_k W1 _ _ ty 30 3 1 g (i * 3) (l.length + 1 - i) dc ⟨vb, 0, none⟩ 1 1 (pkC x) Try.underlying26 hsz (by simp only [Nat.min_def]; split <;> omega) rfl
      (fun j v hj => by rw [Addr.add_lit, Nat.zero_add, cell_of_row _ _ _ _ _ _ hvW]; simpa using hj) (fun j hj => ?_) (fun j hj => frozen_of_row _ _ _ _ _ hg1) (pkC_one x)
    have : j < 3 := hj
    rw [cell_of_row _ _ _ _ _ _ hg1, Array.getElem?_eq_getElem (by omega)]
    rfl
  have hown2 := own_setCells hown1 (i * 3) (pkC x) (by
    have := hown1.1
    rw [this, pkC_length]; omega)
  rw [ins_inner hi hyt hyl] at hown2
  have HFIN : Hid (w.grownBy (W1.setCells g (i * 3) (pkC x)) (some g)) := by
    refine grown_setCells ?_ (i * 3) (pkC x)
    rw [hW1]
    exact grown_setCells (w0 := w) (w := w.drew) ⟨rfl, rfl, rfl, Nat.le_refl _, fun _ _ _ => rfl⟩ _ _
  have HOW2 := Lib.hid hown2
  have mixed : Try.prog.follows .mixedOrders = true := by kernel_rfl
  clear hW1 hownd hown1 hown2 hcell hsrc hown hyl hyt hg hs ht h hvW hdl hv hsz
  go_enter Try.func53, Try.ntmps53
  go_wp2_with (simp only [hov])
  go_region_law_o (refine step_copy_runI rfl _ _ 26 26 rfl _ _ (by simp [Act.eval, Act.put]) (by simp [Act.eval, Act.put]) (hcp1 _ _ _) ?_)
  go_wp2_with (at_builtin; refine wpList_copy_runI _ rfl _ _ 26 26 rfl _ _ rfl rfl (hcp2 _ _) ?_)
  go_ret
  exact ⟨HFIN.out, some ⟨g, 0, none⟩, cap, rfl, HOW2.out⟩
set_option maxRecDepth 100000 in
set_option maxHeartbeats 4000000 in
theorem insertGrow_any (base g cap vb : Nat) (l : List PkT) (i : Nat) (x : PkT) (w : World) (h : w.ownsRow base 30 3 (.slice (some ⟨g, 0, none⟩) l.length cap) l.length (l.flatMap pkC)) (hv : w.heap[vb]? = some (.cells (pkC x).toArray 30 (0, 0))) (hne : vb ≠ g) (hi : i < l.length) (hl : l.length ≤ 8) (hroom : cap < l.length + 1) (hbase : base ≤ w.heap.size) :
    Calls Try.prog 53 #[.slice (some ⟨g, 0, none⟩) l.length cap, .int .i64 (i : Int), .slice (some ⟨vb, 0, none⟩) 1 1] w (InsEnd base g w l i x) := by
  obtain ⟨hbg, hgw, hnc, hc63, cur, hg, hs, ht⟩ := own_block h
  obtain ⟨i0, hi0, hz0, hzs, hzb⟩ := info_pkM
  have hsz : (Try.prog.info? 30).map (·.size) = some 3 := by kernel_rfl
  have hz1 : ¬ ((1 : Int) = 0) := by omega
  have hz2 : ¬ ((i : Int) = (l.length : Int)) := by omega
  have hdl : ((l.drop i).flatMap pkC).length = (l.length - i) * 3 := by rw [flat_length pkC_length, List.length_drop]
  have htl : ((l.take i).flatMap pkC).length = i * 3 := by rw [flat_length pkC_length, List.length_take]; omega
  have hall : ∀ j v, (l.flatMap pkC)[j]? = some v → w.cell? ⟨g, j, none⟩ = some v := fun j v hj => by
    have hlt : j < l.length * 3 := by
      rcases Nat.lt_or_ge j (l.length * 3) with h | h
      · exact h
      · rw [List.getElem?_eq_none (by rw [flat_length pkC_length]; exact h)] at hj; cases hj
    rw [← ht, List.getElem?_take, if_pos hlt, Array.getElem?_toList] at hj
    rw [cell_of_row _ _ _ _ _ _ hg]
    exact hj
  have hcat : l.flatMap pkC = (l.take i).flatMap pkC ++ (l.drop i).flatMap pkC := by rw [← List.flatMap_append, List.take_append_drop]
  have hold : (Builtin.firstCells i0.size i (.slice (some ⟨g, 0, none⟩) i cap)).run Try.prog w.drew = .ok ((l.take i).flatMap pkC).toArray w.drew := by
    rw [hzs]
    exact run_firstCells_some w.drew 3 i ⟨g, 0, none⟩ i cap ((l.take i).flatMap pkC) htl (fun j v hj => by
      rw [Addr.add_lit, Nat.zero_add]
      refine hall j v ?_
      rw [hcat, List.getElem?_append_left (by
        rcases Nat.lt_or_ge j ((l.take i).flatMap pkC).length with h | h
        · exact h
        · rw [List.getElem?_eq_none h] at hj; cases hj)]
      exact hj)
  have hrz : ∀ ty, (Builtin.append_ #[26, 3] ty #[.slice (some ⟨g, 0, none⟩) i cap, .int .i64 ((l.length : Int) + 1 - (i : Int))]).run Try.prog w = .ok (.slice (some ⟨w.heap.size, 0, none⟩) (l.length + 1) (grownCap w (l.length + 1) cap 30)) (w.drew.alloc (.cells (((l.take i).flatMap pkC).toArray ++ Builtin.zeroCells (Value.agg (pkC ((0, 0, ⟨#[]⟩) : PkT)).toArray).cells (l.length + 1 - i) ++ Builtin.zeroCells (Value.agg (pkC ((0, 0, ⟨#[]⟩) : PkT)).toArray).cells (grownCap w (l.length + 1) cap 30 - (l.length + 1))) 30)) := fun ty => by
    have h := Lib.run_append_grow_zeros w 26 3 ty 30 i0 _ .i64 .i64 Try.underlying26 Try.underlying3 hi0 hz0 (some ⟨g, 0, none⟩) i cap ((l.take i).flatMap pkC) hold (l.length + 1 - i) (by omega) (by rw [hzs]; decide) (by omega) (by omega) (by rw [hzb]; omega) (by rw [hzb]; exact growslice_fits (by omega) (by omega))
    rw [show ((l.length + 1 - i : Nat) : Int) = (l.length : Int) + 1 - (i : Int) by omega, show i + (l.length + 1 - i) = l.length + 1 by omega] at h
    exact h
  have hGn := grownCap_ge w (l.length + 1) cap 30
  have hG63 := grownCap_le_maxLen w (l.length + 1) cap 30 (by unfold maxLen; omega)
  generalize grownCap w (l.length + 1) cap 30 = G at *
  obtain ⟨ROW, hROW⟩ : ∃ ROW : Array Value, ROW = ((l.take i).flatMap pkC).toArray ++ Builtin.zeroCells (Value.agg (pkC ((0, 0, ⟨#[]⟩) : PkT)).toArray).cells (l.length + 1 - i) ++ Builtin.zeroCells (Value.agg (pkC ((0, 0, ⟨#[]⟩) : PkT)).toArray).cells (G - (l.length + 1)) := ⟨_, rfl⟩
  rw [← hROW] at hrz
  have hz3 : (Value.agg (pkC ((0, 0, ⟨#[]⟩) : PkT)).toArray).cells.size = 3 := rfl
  have hRS : ROW.size = G * 3 := by
    rw [hROW]
    simp only [Builtin.zeroCells, hz3, Array.size_append, List.size_toArray, Array.size_map, Array.size_range, htl]
    omega
  have hRT : (ROW.toList.take ((l.length + 1) * 3)).take (i * 3) = (l.take i).flatMap pkC := by
    rw [List.take_take, Nat.min_eq_left (by omega), hROW, Array.append_assoc, Array.toList_append]
    rw [show (((l.take i).flatMap pkC).toArray).toList = (l.take i).flatMap pkC from by simp, List.take_append_of_le_length (by rw [htl]; exact Nat.le_refl _), List.take_of_length_le (by rw [htl]; exact Nat.le_refl _)]
  clear hROW
  have hRL : (ROW.toList.take ((l.length + 1) * 3)).length = (l.length + 1) * 3 := by
    have : (l.length + 1) * 3 ≤ G * 3 := Nat.mul_le_mul_right _ hGn
    have hr : ROW.toList.length = G * 3 := by rw [Array.length_toList]; exact hRS
    rw [List.length_take, hr]; omega
  obtain ⟨W1, hW1⟩ : ∃ W1, W1 = w.drew.alloc (.cells ROW 30) := ⟨_, rfl⟩
  have hown0 : W1.ownsRow base 30 3 (.slice (some ⟨w.heap.size, 0, none⟩) (l.length + 1) G) (l.length + 1) (ROW.toList.take ((l.length + 1) * 3)) := by
    rw [hW1]
    exact ⟨hRL, .inr ⟨w.heap.size, G, ROW, rfl, hbase, heap_alloc_new w.drew _, hGn, hG63, hRS, rfl⟩⟩
  have hB1 : Below w.heap.size w W1 := by
    rw [hW1]
    exact ((Below.refl _ _).drew).alloc (Nat.le_refl _) _
  rw [← hW1] at hrz
  have hvl : vb < w.heap.size := lt_of_block hv
  have hrow1 : W1.heap[w.heap.size]? = some (.cells ROW 30 (0, 0)) := by rw [hW1]; exact heap_alloc_new w.drew _
  have hcpA : ∀ ty dc, (Builtin.copy_ #[26, 26] ty #[.slice (some ⟨w.heap.size, i * 3, none⟩) (l.length + 1 - i) dc, .slice (some ⟨vb, 0, none⟩) 1 1]).run Try.prog W1 = .ok (goInt 1) (W1.setCells w.heap.size (i * 3) (pkC x)) := fun ty dc => by
    refine run_copy_k W1 _ _ ty 30 3 1 w.heap.size (i * 3) (l.length + 1 - i) dc ⟨vb, 0, none⟩ 1 1 (pkC x) Try.underlying26 hsz (by simp only [Nat.min_def]; split <;> omega) rfl
      (fun j v hj => by rw [Addr.add_lit, Nat.zero_add, cell_of_row _ _ _ _ _ _ ((hB1.block _ hvl).trans hv)]; simpa using hj) (fun j hj => ?_) (fun j hj => frozen_of_row _ _ _ _ _ hrow1) (pkC_one x)
    have hj3 : j < 3 := hj
    have hGG : (l.length + 1) * 3 ≤ G * 3 := Nat.mul_le_mul_right _ hGn
    have hlt : i * 3 + j < ROW.size := by rw [hRS]; omega
    rw [cell_of_row _ _ _ _ _ _ hrow1, Array.getElem?_eq_getElem hlt]
    rfl
  have hownA := own_setCells hown0 (i * 3) (pkC x) (by rw [hRL, pkC_length]; omega)
  obtain ⟨W2, hW2⟩ : ∃ W2, W2 = W1.setCells w.heap.size (i * 3) (pkC x) := ⟨_, rfl⟩
  rw [← hW2] at hcpA hownA
  have hB2 : Below w.heap.size w W2 := by rw [hW2]; exact below_setCells (Nat.le_refl _) _ _ hB1
  obtain ⟨curA, hrowA, hsA⟩ : ∃ curA, W2.heap[w.heap.size]? = some (.cells curA 30 (0, 0)) ∧ curA.size = G * 3 := by
    rw [hW2]
    obtain ⟨c2, h1, h2, _⟩ := heap_setCells w.heap.size 30 (pkC x) (i * 3) W1 ROW hrow1
    exact ⟨c2, h1, by rw [h2, hRS]⟩
  have hcpB : ∀ ty dc sc, (Builtin.copy_ #[26, 26] ty #[.slice (some ⟨w.heap.size, (i + 1) * 3, none⟩) (l.length - i) dc, .slice (some ⟨g, i * 3, none⟩) (l.length - i) sc]).run Try.prog W2.drew = .ok (goInt ((l.length - i : Nat) : Int)) (W2.drew.setCells w.heap.size ((i + 1) * 3) ((l.drop i).flatMap pkC)) := fun ty dc sc =>
    run_copy_k W2.drew _ _ ty 30 3 (l.length - i) w.heap.size ((i + 1) * 3) (l.length - i) dc ⟨g, i * 3, none⟩ (l.length - i) sc ((l.drop i).flatMap pkC) Try.underlying26 hsz (by simp only [Nat.min_def]; split <;> omega) hdl
      (fun j v hj => by
        rw [Addr.add_lit]
        have hgW : W2.heap[g]? = some (.cells cur 30 (0, 0)) := (hB2.block _ hgw).trans hg
        have hq := hall (i * 3 + j) v (by rw [hcat, List.getElem?_append_right (by rw [htl]; omega), htl, Nat.add_sub_cancel_left]; exact hj)
        rw [cell_of_row _ _ _ _ _ _ hg] at hq
        exact (cell_of_row W2 g (i * 3 + j) _ _ _ hgW).trans hq)
      (fun j hj => by
        rw [hdl] at hj
        have : (l.length + 1) * 3 ≤ G * 3 := Nat.mul_le_mul_right _ hGn
        exact (congrArg Option.isSome ((cell_of_row W2 w.heap.size ((i + 1) * 3 + j) _ _ _ hrowA).trans (Array.getElem?_eq_getElem (by omega)))).trans rfl) (fun j hj => frozen_of_row W2 _ _ _ _ hrowA) (fun v hv => by
        obtain ⟨p, _, hp⟩ := List.mem_flatMap.1 hv
        exact pkC_one p v hp)
  have hownd : W2.drew.ownsRow base 30 3 (.slice (some ⟨w.heap.size, 0, none⟩) (l.length + 1) G) (l.length + 1) _ := hownA
  have hownB := own_setCells hownd ((i + 1) * 3) ((l.drop i).flatMap pkC) (by rw [hownA.1, hdl]; omega)
  have hfin := grow_list (R := ROW.toList.take ((l.length + 1) * 3)) (A := (l.take i).flatMap pkC) (X := pkC x) (D := (l.drop i).flatMap pkC) (a := i * 3) hRT htl (pkC_length x) (by rw [hRL, hdl]; omega)
  rw [put_flat l x i (by omega), show i * 3 + 3 = (i + 1) * 3 by omega] at hfin
  rw [hfin] at hownB
  have HFIN : Hid (w.grownBy (W2.drew.setCells w.heap.size ((i + 1) * 3) ((l.drop i).flatMap pkC)) (some g)) := by
    have hB3 := below_setCells (Nat.le_refl _) ((l.drop i).flatMap pkC) ((i + 1) * 3) hB2.drew
    exact ⟨hB3.os, hB3.tape, hB3.output, hB3.size, fun k hk _ => hB3.block k hk⟩
  have HOWB := Lib.hid hownB
  have hb0 : (0 : Int) ≤ (i : Int) := by omega
  have hw1 : IntKind.i64.wrap ((i : Int) + 1) = (i : Int) + 1 := by rw [IntKind.wrap_i64]; omega
  have hb1' : ¬ ((i : Int) + 1 < 0) := by omega
  have htn : ((i : Int) + 1).toNat = i + 1 := by omega
  have hb4 : ¬ (cap = i) := by omega
  have hb5 : ((l.length : Int) + 1 > (cap : Int)) := by omega
  have hb7 : (i : Int) + 1 ≤ (l.length : Int) + 1 := by omega
  have hb8 : (i : Int) ≤ (l.length : Int) := by omega
  have hb9 : (i : Int) ≤ (cap : Int) := by omega
  have hbA : (i : Int) ≤ (l.length : Int) + 1 := by omega
  have hGi : ¬ (G = i) := by omega
  have hGim : ¬ (G = i + 1) := by omega
  have hwl : IntKind.i64.wrap ((l.length : Int) + 1) = (l.length : Int) + 1 := by rw [IntKind.wrap_i64]; omega
  have hws : IntKind.i64.wrap ((l.length : Int) + 1 - (i : Int)) = (l.length : Int) + 1 - (i : Int) := by rw [IntKind.wrap_i64]; omega
  have mixed : Try.prog.follows .mixedOrders = true := by kernel_rfl
  clear hW1 hW2 hown0 hownA hownd hownB hfin hRS hRT hRL hrow1 hrowA hsA hB1 hB2 hold hall hcat hdl htl hv hg hs ht h hGn hG63
  go_enter Try.func53, Try.ntmps53
  go_wp2_with (at_builtin; first | (refine Lib.wpList_append_run _ rfl _ _ _ _ rfl _ _ rfl rfl _ _ (hrz _) ?_) | (refine wpList_copy_runI _ rfl _ _ 26 26 rfl _ _ rfl rfl (hcpA _ _) ?_))
  go_region_law_o (refine step_copy_runI rfl _ _ 26 26 rfl _ _ (by simp [Act.eval, Act.put]) (by simp [Act.eval, Act.put]) (hcpB _ _ _) ?_)
  go_wp2_with fail
  go_ret
  exact ⟨HFIN.out, some ⟨w.heap.size, 0, none⟩, G, rfl, HOWB.out⟩
set_option maxRecDepth 100000 in
set_option maxHeartbeats 4000000 in
theorem insertEnd_any (base cap vb : Nat) (a : Option Addr) (l : List PkT) (x : PkT) (w : World) (h : w.ownsRow base 30 3 (.slice a l.length cap) l.length (l.flatMap pkC)) (hv : w.heap[vb]? = some (.cells (pkC x).toArray 30 (0, 0))) (hl : l.length ≤ 8) (hbase : base ≤ w.heap.size) :
    Calls Try.prog 53 #[.slice a l.length cap, .int .i64 (l.length : Int), .slice (some ⟨vb, 0, none⟩) 1 1] w fun e w' => w.grownBy w' (Value.ownBlock (.slice a l.length cap)) ∧ ∃ a' c, e = .returned (.slice a' (l.length + 1) c) ∧ w'.ownsRow base 30 3 (.slice a' (l.length + 1) c) (l.length + 1) ((l ++ [x]).flatMap pkC) := by
  obtain ⟨i0, hi0, hz0, hz1, hz2⟩ := info_pkM
  have HOW := Lib.hid h
  have hcap : l.length ≤ cap := by
    rcases h.2 with ⟨e0, h0⟩ | ⟨g, c', cur, e0, _, _, hn, _⟩
    · omega
    · injection e0 with _ _ e3
      omega
  have D1 : Hid (∀ (j : Nat) (u : Value), (pkC x)[j]? = some u → w.cell? ((⟨vb, 0, none⟩ : Addr).add j) = some u) := fun j u hj => by
    rw [Addr.add_lit, Nat.zero_add, cell_of_row _ _ _ _ _ _ hv]
    simpa using hj
  have HONE := Lib.hid (pkC_one x)
  have D3 : Hid (l.length + 1 ≤ maxLen) := by show _ ≤ _; unfold maxLen; omega
  have D4 : Hid ((l.length + 1) * 32 ≤ 140737488355328) := by show _ ≤ _; omega
  have D5 : Hid (base ≤ w.heap.size) := hbase
  have m1 : ¬ ((1 : Int) = 0) := by omega
  have k1 : (l.length : Int) ≤ (l.length : Int) := by omega
  have k0 : (0 : Int) ≤ (l.length : Int) := by omega
  clear h hv
  by_cases hcc : cap = l.length
  · subst hcc
    go_enter Try.func53, Try.ntmps53
    go_wp2_with (at_builtin; refine wpList_append_own _ rfl _ _ 26 rfl base 30 i0 (.agg (pkC ((0, 0, ⟨#[]⟩) : PkT)).toArray) 3 32 Try.underlying26 hi0 hz0 hz1 hz2 rfl (by decide) _ _ _ rfl HOW.out ⟨vb, 0, none⟩ 1 1 (pkC x) rfl rfl D1.out HONE.out D3.out D4.out D5.out ?_)
    intro v' w2 hown' hgrow _
    obtain ⟨oa2, oc2, rfl⟩ := own_formK hown'
    have HG := Lib.hid hgrow
    have OW : Hid (w2.ownsRow base 30 3 (.slice oa2 (l.length + 1) oc2) (l.length + 1) ((l ++ [x]).flatMap pkC)) := by
      show w2.ownsRow _ _ _ _ _ _
      rw [List.flatMap_append, List.flatMap_singleton]
      exact hown'
    clear hown' hgrow
    go_wp2_with fail
    go_ret
    exact ⟨HG.out, oa2, oc2, rfl, OW.out⟩
  · have hcc2 : ¬ (l.length = cap) := fun h => hcc h.symm
    go_enter Try.func53, Try.ntmps53
    go_wp2_with (at_builtin; refine wpList_append_own _ rfl _ _ 26 rfl base 30 i0 (.agg (pkC ((0, 0, ⟨#[]⟩) : PkT)).toArray) 3 32 Try.underlying26 hi0 hz0 hz1 hz2 rfl (by decide) _ _ _ rfl HOW.out ⟨vb, 0, none⟩ 1 1 (pkC x) rfl rfl D1.out HONE.out D3.out D4.out D5.out ?_)
    intro v' w2 hown' hgrow _
    obtain ⟨oa2, oc2, rfl⟩ := own_formK hown'
    have HG := Lib.hid hgrow
    have OW : Hid (w2.ownsRow base 30 3 (.slice oa2 (l.length + 1) oc2) (l.length + 1) ((l ++ [x]).flatMap pkC)) := by
      show w2.ownsRow _ _ _ _ _ _
      rw [List.flatMap_append, List.flatMap_singleton]
      exact hown'
    clear hown' hgrow
    go_wp2_with fail
    go_ret
    exact ⟨HG.out, oa2, oc2, rfl, OW.out⟩
end Go.Proofs.Ytinjnclpiiohcaa
