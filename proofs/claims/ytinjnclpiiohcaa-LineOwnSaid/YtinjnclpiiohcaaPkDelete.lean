/- The walk of slices.Delete over packets, one element out of a row of the call's own. -/
import Derived.Test.YtinjnclpiiohcaaPkInsert
import Derived.Test.YtinjnclpiiohcaaDrawn
import Derived.Test.YtinjnclpiiohcaaAppendNew
namespace Go.Proofs.Ytinjnclpiiohcaa
open Go.RowKit Plain
set_option linter.unusedVariables false
set_option linter.unusedSimpArgs false
set_option maxRecDepth 100000 in
theorem zero_pk (w : World) : (zeroValue 30).run Try.prog w = .ok (.agg (pkC ((0, 0, ⟨#[]⟩) : PkT)).toArray) w := by
  kernel_rfl
theorem del_rows {base g cap : Nat} {l : List PkT} {w : World} (h : w.ownsRow base 30 3 (.slice (some ⟨g, 0, none⟩) l.length cap) l.length (l.flatMap pkC)) (i : Nat) (hi : i < l.length) (ad : Addr) (had : ad = ⟨g, (i + 1) * 3, none⟩ ∨ i + 1 = l.length) (c : Nat) :
    ∃ (w2 : World) (Z : List Value), (∀ ty, (Builtin.append_ #[26, 26] ty #[.slice (some ⟨g, 0, none⟩) i cap, .slice (some ad) (l.length - (i + 1)) c]).run Try.prog w = .ok (.slice (some ⟨g, 0, none⟩) (l.length - 1) cap) w2) ∧
      (∀ ty c, (Builtin.clear_ #[26] ty #[.slice (some ⟨g, (l.length - 1) * 3, none⟩) 1 c]).run Try.prog w2 = .ok (.tuple #[]) (w2.setCells g ((l.length - 1) * 3) Z)) ∧
      (w2.setCells g ((l.length - 1) * 3) Z).ownsRow base 30 3 (.slice (some ⟨g, 0, none⟩) (l.length - 1) cap) (l.length - 1) ((l.take i ++ l.drop (i + 1)).flatMap pkC) ∧ w.grownBy (w2.setCells g ((l.length - 1) * 3) Z) (some g) := by
  obtain ⟨i0, hi0, hz0, hz1, hz2⟩ := info_pkM
  obtain ⟨hlen, h2⟩ := h
  rcases h2 with ⟨e0, _⟩ | ⟨g', cap', cur, e0, hb, hg, hn, hm, hs, ht⟩
  · cases e0
  injection e0 with e1 _ e3
  injection e1 with e1
  injection e1 with e1
  subst e1
  subst e3
  obtain ⟨D, hD⟩ : ∃ D, (l.drop (i + 1)).flatMap pkC = D := ⟨_, rfl⟩
  have hDl : D.length = (l.length - (i + 1)) * 3 := by rw [← hD, flat_length pkC_length, List.length_drop]
  have hcur : cur.toList = l.flatMap pkC ++ cur.toList.drop (l.length * 3) := by rw [← ht, List.take_append_drop]
  have hsz : l.length * 3 ≤ cur.size := by rw [hs]; exact Nat.mul_le_mul_right _ hn
  have hone : ∀ u ∈ D, u.oneCell' = true := fun u hu => by
    rw [← hD] at hu
    obtain ⟨y, _, hu⟩ := List.mem_flatMap.1 hu
    exact pkC_one y u hu
  have hnews : ∀ j u, D[j]? = some u → w.cell? (ad.add j) = some u := fun j u hu => by
    rcases had with rfl | he
    · rw [Addr.add_mid, cell_of_row _ _ _ _ _ _ hg, ← Array.getElem?_toList, hcur, List.getElem?_append_left]
      · have e : (l.flatMap pkC).drop ((i + 1) * 3) = D := by
          rw [← hD]
          have hh := congrArg (fun x : List PkT => x.flatMap pkC) (List.take_append_drop (i + 1) l)
          simp only [List.flatMap_append] at hh
          rw [← hh, List.drop_append_of_le_length (by rw [flat_length pkC_length, List.length_take]; omega), List.drop_of_length_le (by rw [flat_length pkC_length, List.length_take]; omega), List.nil_append]
        rw [← e, List.getElem?_drop] at hu
        exact hu
      · rw [flat_length pkC_length]
        have := (List.getElem?_eq_some_iff.1 hu).1
        omega
    · have : D = [] := List.eq_nil_of_length_eq_zero (by rw [hDl]; omega)
      rw [this] at hu
      simp at hu
  have hroom := fun ty => run_append_room (P := Try.prog) w 26 ty 30 i0 Try.underlying26 hi0 g i cap cur hg ad (l.length - (i + 1)) c D (by rw [hDl, hz1]) hnews hone (by omega) (by rw [hz1, hDl]; omega)
  rw [hz1, show i + (l.length - (i + 1)) = l.length - 1 by omega] at hroom
  obtain ⟨y, hy⟩ : ∃ y, l[l.length - 1]'(by omega) = y := ⟨_, rfl⟩
  have hlast : l = l.take (l.length - 1) ++ [y] := by
    have := List.take_append_drop (l.length - 1) l
    rw [List.drop_eq_getElem_cons (by omega), List.drop_of_length_le (by omega), hy] at this
    exact this.symm
  obtain ⟨l2, hl2⟩ : ∃ l2, l.take i ++ l.drop (i + 1) ++ [y] = l2 := ⟨_, rfl⟩
  have hl2l : l2.length = l.length := by
    rw [← hl2]
    simp only [List.length_append, List.length_take, List.length_drop, List.length_singleton]
    omega
  have hR : cur.toList.take (i * 3) ++ D ++ cur.toList.drop (i * 3 + D.length) = l2.flatMap pkC ++ cur.toList.drop (l.length * 3) := by
    have e1 : cur.toList.take (i * 3) = (l.take i).flatMap pkC := by
      rw [hcur, List.take_append_of_le_length (by rw [flat_length pkC_length]; omega), flat_take pkC_length l i (by omega)]
    have e2 : cur.toList.drop (i * 3 + D.length) = pkC y ++ cur.toList.drop (l.length * 3) := by
      rw [show i * 3 + D.length = (l.length - 1) * 3 by rw [hDl]; omega]
      have hh := congrArg (fun x : List PkT => x.flatMap pkC) hlast
      simp only [List.flatMap_append, List.flatMap_singleton] at hh
      conv => lhs; rw [hcur, hh]
      rw [List.append_assoc, List.drop_append_of_le_length (by rw [flat_length pkC_length, List.length_take]; omega), List.drop_of_length_le (by rw [flat_length pkC_length, List.length_take]; omega), List.nil_append]
    rw [e1, e2, ← hl2, ← hD]
    simp only [List.flatMap_append, List.flatMap_singleton, List.append_assoc]
  simp only [hR] at hroom
  obtain ⟨R, hRR⟩ : ∃ R, (l2.flatMap pkC ++ cur.toList.drop (l.length * 3)).toArray = R := ⟨_, rfl⟩
  rw [hRR] at hroom
  have hg2 := setRow_heap w g cur R _ _ hg
  have hRs : R.size = cap * 3 := by
    rw [← hRR]
    simp only [List.size_toArray, List.length_append, flat_length pkC_length, List.length_drop, Array.length_toList, hl2l]
    omega
  have hown2 : (w.setRow g R).ownsRow base 30 3 (.slice (some ⟨g, 0, none⟩) l2.length cap) l2.length (l2.flatMap pkC) := by
    refine ⟨flat_length pkC_length _, .inr ⟨g, cap, R, rfl, hb, hg2, by omega, hm, hRs, ?_⟩⟩
    rw [← hRR]
    simp only
    rw [List.take_append_of_le_length (by rw [flat_length pkC_length]; exact Nat.le_refl _), List.take_of_length_le (by rw [flat_length pkC_length]; exact Nat.le_refl _)]
  have hz : (Value.agg (pkC ((0, 0, ⟨#[]⟩) : PkT)).toArray).cells.size = 3 := rfl
  have key := fun ty c => run_clear_any (P := Try.prog) (w.setRow g R) 26 30 ty (.agg (pkC ((0, 0, ⟨#[]⟩) : PkT)).toArray) Try.underlying26 (zero_pk _) (fun v hv => pkC_one _ v (by simpa [Value.cells] using hv)) g ((l.length - 1) * 3) 1 c (by omega)
    (fun j hj => by rw [hz] at hj; rw [cell_of_row _ _ _ _ _ _ hg2, Array.getElem?_eq_getElem (by omega)]; rfl) (fun j _ => frozen_of_row _ _ _ _ _ hg2)
  obtain ⟨Z, hZ⟩ : ∃ Z, (Builtin.zeroCells (Value.agg (pkC ((0, 0, ⟨#[]⟩) : PkT)).toArray).cells 1).toList = Z := ⟨_, rfl⟩
  have hZl : Z.length = 3 := by
    have := (key 0 0).2
    rw [hZ, hz] at this
    simpa using this
  refine ⟨w.setRow g R, Z, hroom, fun ty c => by have := (key ty c).1; rw [hZ] at this; exact this, ?_, ?_⟩
  · have hfin := own_clear pkC_length hown2 (l.length - 1) (by omega) Z (by rw [hZl, hl2l]; omega)
    have e : l2.take (l.length - 1) = l.take i ++ l.drop (i + 1) := by
      rw [← hl2, List.take_append_of_le_length (by simp only [List.length_append, List.length_take, List.length_drop]; omega), List.take_of_length_le (by simp only [List.length_append, List.length_take, List.length_drop]; omega)]
    have e2 : (l.take i ++ l.drop (i + 1)).length = l.length - 1 := by simp only [List.length_append, List.length_take, List.length_drop]; omega
    rw [e, e2] at hfin
    exact hfin
  · have hb1 := heap_setCells g 30 Z ((l.length - 1) * 3) (w.setRow g R) R hg2
    have hbb := below_setCells (Nat.zero_le g) Z ((l.length - 1) * 3) (Below.refl 0 (w.setRow g R))
    exact ⟨hbb.os, hbb.tape, hbb.output, by have := hbb.size; simp, fun k hk hne => (heap_setCells_other _ _ (fun e => hne (by rw [e])) _ _ _).trans (setRow_other w g k R (fun e => hne (by rw [e])))⟩
def DeEnd (base g cap : Nat) (w0 : World) (l : List PkT) (i : Nat) (e : Ending) (w : World) : Prop := w0.grownBy w (some g) ∧ e = .returned (.slice (some ⟨g, 0, none⟩) (l.length - 1) cap) ∧ w.ownsRow base 30 3 (.slice (some ⟨g, 0, none⟩) (l.length - 1) cap) (l.length - 1) ((l.take i ++ l.drop (i + 1)).flatMap pkC)
set_option maxRecDepth 100000 in
set_option maxHeartbeats 4000000 in
theorem delete_any (base g cap : Nat) (l : List PkT) (i : Nat) (w : World) (h : w.ownsRow base 30 3 (.slice (some ⟨g, 0, none⟩) l.length cap) l.length (l.flatMap pkC)) (hi : i < l.length) :
    Calls Try.prog 59 #[.slice (some ⟨g, 0, none⟩) l.length cap, .int .i64 (i : Int), .int .i64 ((i : Int) + 1)] w (DeEnd base g cap w l i) := by
  obtain ⟨_, _, hnc, hcm, _⟩ := own_block h
  have HOW : Hid (w.drew.ownsRow base 30 3 (.slice (some ⟨g, 0, none⟩) l.length cap) l.length (l.flatMap pkC)) := own_belowK h (Below.refl _ _).drew
  clear h
  have c0 : (0 : Int) ≤ (i : Int) := Int.natCast_nonneg _
  have c1 : (i : Int) ≤ (i : Int) + 1 := by omega
  have c2 : (i : Int) + 1 ≤ (l.length : Int) := by omega
  have c3 : (l.length : Int) ≤ (cap : Int) := by omega
  have c4 : ((i : Int) == (i : Int) + 1) = false := by rw [beq_eq_false_iff_ne]; omega
  have c5 : (i : Int) ≤ (cap : Int) := by omega
  have c6 : (0 : Int) ≤ (i : Int) + 1 := by omega
  by_cases hc : i + 1 = cap
  · subst hc
    obtain ⟨w2, Z, HAP, HCL, hown, hgr⟩ := del_rows HOW.out i hi ⟨g, 0, none⟩ (.inr (by omega)) (0)
    have HOWN := Lib.hid hown
    have HGR := Lib.hid hgr
    have HX : Hid (((l.length - 1 : Nat) : Int) ≤ (l.length : Int) ∧ (0 : Int) ≤ ((l.length - 1 : Nat) : Int) ∧ (l.length : Int) ≤ ((i + 1 : Nat) : Int) ∧ ¬ (i + 1 = l.length - 1) ∧ l.length - (l.length - 1) = 1) := ⟨by omega, by omega, by omega, by omega, by omega⟩
    clear hown hgr hnc
    go_enter Try.func59, Try.ntmps59
    go_wp2_with fail
    refine wp_region_noPanic ?_
    refine wp_region_held_drew (S := fun _ => True) (by kernel_rfl) trivial (fun _hS0 => ?_)
    clear _hS0 c3
    refine take_val 0 (.slice (some ⟨g, 0, none⟩) l.length (i + 1)) rfl (by kernel_rfl) (by kernel_rfl) (by kernel_rfl) (fun _ _ _ _ h => h) (by rfl) rfl (fun wz hS => by go_simp) trivial ?_
    try simp only [List.set_cons_zero, List.set_cons_succ]
    refine take_val 1 (.int .i64 (i : Int)) rfl (by kernel_rfl) (by kernel_rfl) (by kernel_rfl) (fun _ _ _ _ h => h) (by rfl) rfl (fun wz hS => by go_simp) trivial ?_
    try simp only [List.set_cons_zero, List.set_cons_succ]
    refine take_val 2 (.slice (some ⟨g, 0, none⟩) i (i + 1)) rfl (by kernel_rfl) (by kernel_rfl) (by kernel_rfl) (fun _ _ _ _ h => h) (by rfl) rfl (fun wz hS => by go_simp) trivial ?_
    try simp only [List.set_cons_zero, List.set_cons_succ]
    refine take_val 3 (.slice (some ⟨g, 0, none⟩) l.length (i + 1)) rfl (by kernel_rfl) (by kernel_rfl) (by kernel_rfl) (fun _ _ _ _ h => h) (by rfl) rfl (fun wz hS => by go_simp) trivial ?_
    try simp only [List.set_cons_zero, List.set_cons_succ]
    refine take_val 4 (.int .i64 ((i : Int) + 1)) rfl (by kernel_rfl) (by kernel_rfl) (by kernel_rfl) (fun _ _ _ _ h => h) (by rfl) rfl (fun wz hS => by go_simp) trivial ?_
    try simp only [List.set_cons_zero, List.set_cons_succ]
    refine take_val 5 (.slice (some ⟨g, 0, none⟩) (l.length - (i + 1)) (0)) rfl (by kernel_rfl) (by kernel_rfl) (by kernel_rfl) (fun _ _ _ _ h => h) (by rfl) rfl (fun wz hS => by go_simp) trivial ?_
    try simp only [List.set_cons_zero, List.set_cons_succ]
    clear c2
    refine one_ready 6 (by kernel_rfl) rfl (by rfl) (fun K hK => ?_)
    refine wp_append_run _ _ _ rfl rfl rfl (HAP _) ?_
    refine hK.out _ _ trivial ?_
    clear hK K
    try simp only [Act.put, List.setIfInBounds_toArray]
    try simp only [List.set_cons_zero, List.set_cons_succ]
    refine take_val 7 (.slice (some ⟨g, 0, none⟩) (l.length - 1) (i + 1)) rfl (by kernel_rfl) (by kernel_rfl) (by kernel_rfl) (fun _ _ _ _ h => h) (by rfl) rfl (fun wz hS => by go_simp) trivial ?_
    try simp only [List.set_cons_zero, List.set_cons_succ]
    refine wpAnyH_done (by kernel_rfl) ?_ _
    refine NoPanic.normal ?_
    clear HAP
    obtain ⟨d1, d2, d3, d4, d5⟩ := HX.out
    have HCL2 : ∀ (ty : TypeId) (c : Nat), (Builtin.clear_ #[26] ty #[.slice (some ⟨g, (l.length - 1) * 3, none⟩) (l.length - (l.length - 1)) c]).run Try.prog w2 = .ok (.tuple #[]) (w2.setCells g ((l.length - 1) * 3) Z) := fun ty c => by rw [d5]; exact HCL ty c
    clear d5 HCL
    go_wp2_with fail
    go_ret
    exact ⟨⟨HGR.out.os, HGR.out.tape, HGR.out.output, HGR.out.size, HGR.out.block⟩, rfl, HOWN.out⟩
  · have hc' : ¬ (cap - (i + 1) = 0) := by omega
    have hc'' : ¬ (cap = i + 1) := by omega
    obtain ⟨w2, Z, HAP, HCL, hown, hgr⟩ := del_rows HOW.out i hi ⟨g, (i + 1) * 3, none⟩ (.inl rfl) (cap - (i + 1))
    have HOWN := Lib.hid hown
    have HGR := Lib.hid hgr
    have HX : Hid (((l.length - 1 : Nat) : Int) ≤ (l.length : Int) ∧ (0 : Int) ≤ ((l.length - 1 : Nat) : Int) ∧ (l.length : Int) ≤ ((cap : Nat) : Int) ∧ ¬ (cap = l.length - 1) ∧ l.length - (l.length - 1) = 1) := ⟨by omega, by omega, by omega, by omega, by omega⟩
    clear hown hgr hnc
    go_enter Try.func59, Try.ntmps59
    go_wp2_with fail
    refine wp_region_noPanic ?_
    refine wp_region_held_drew (S := fun _ => True) (by kernel_rfl) trivial (fun _hS0 => ?_)
    clear _hS0 c3
    refine take_val 0 (.slice (some ⟨g, 0, none⟩) l.length (cap)) rfl (by kernel_rfl) (by kernel_rfl) (by kernel_rfl) (fun _ _ _ _ h => h) (by rfl) rfl (fun wz hS => by go_simp) trivial ?_
    try simp only [List.set_cons_zero, List.set_cons_succ]
    refine take_val 1 (.int .i64 (i : Int)) rfl (by kernel_rfl) (by kernel_rfl) (by kernel_rfl) (fun _ _ _ _ h => h) (by rfl) rfl (fun wz hS => by go_simp) trivial ?_
    try simp only [List.set_cons_zero, List.set_cons_succ]
    refine take_val 2 (.slice (some ⟨g, 0, none⟩) i (cap)) rfl (by kernel_rfl) (by kernel_rfl) (by kernel_rfl) (fun _ _ _ _ h => h) (by rfl) rfl (fun wz hS => by go_simp) trivial ?_
    try simp only [List.set_cons_zero, List.set_cons_succ]
    refine take_val 3 (.slice (some ⟨g, 0, none⟩) l.length (cap)) rfl (by kernel_rfl) (by kernel_rfl) (by kernel_rfl) (fun _ _ _ _ h => h) (by rfl) rfl (fun wz hS => by go_simp) trivial ?_
    try simp only [List.set_cons_zero, List.set_cons_succ]
    refine take_val 4 (.int .i64 ((i : Int) + 1)) rfl (by kernel_rfl) (by kernel_rfl) (by kernel_rfl) (fun _ _ _ _ h => h) (by rfl) rfl (fun wz hS => by go_simp) trivial ?_
    try simp only [List.set_cons_zero, List.set_cons_succ]
    refine take_val 5 (.slice (some ⟨g, (i + 1) * 3, none⟩) (l.length - (i + 1)) (cap - (i + 1))) rfl (by kernel_rfl) (by kernel_rfl) (by kernel_rfl) (fun _ _ _ _ h => h) (by rfl) rfl (fun wz hS => by go_simp) trivial ?_
    try simp only [List.set_cons_zero, List.set_cons_succ]
    clear c2
    refine one_ready 6 (by kernel_rfl) rfl (by rfl) (fun K hK => ?_)
    refine wp_append_run _ _ _ rfl rfl rfl (HAP _) ?_
    refine hK.out _ _ trivial ?_
    clear hK K
    try simp only [Act.put, List.setIfInBounds_toArray]
    try simp only [List.set_cons_zero, List.set_cons_succ]
    refine take_val 7 (.slice (some ⟨g, 0, none⟩) (l.length - 1) (cap)) rfl (by kernel_rfl) (by kernel_rfl) (by kernel_rfl) (fun _ _ _ _ h => h) (by rfl) rfl (fun wz hS => by go_simp) trivial ?_
    try simp only [List.set_cons_zero, List.set_cons_succ]
    refine wpAnyH_done (by kernel_rfl) ?_ _
    refine NoPanic.normal ?_
    clear HAP
    obtain ⟨d1, d2, d3, d4, d5⟩ := HX.out
    have HCL2 : ∀ (ty : TypeId) (c : Nat), (Builtin.clear_ #[26] ty #[.slice (some ⟨g, (l.length - 1) * 3, none⟩) (l.length - (l.length - 1)) c]).run Try.prog w2 = .ok (.tuple #[]) (w2.setCells g ((l.length - 1) * 3) Z) := fun ty c => by rw [d5]; exact HCL ty c
    clear d5 HCL
    go_wp2_with fail
    go_ret
    exact ⟨⟨HGR.out.os, HGR.out.tape, HGR.out.output, HGR.out.size, HGR.out.block⟩, rfl, HOWN.out⟩
end Go.Proofs.Ytinjnclpiiohcaa
