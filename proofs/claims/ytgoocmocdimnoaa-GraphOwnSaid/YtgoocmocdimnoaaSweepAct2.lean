/- The walks of sweep's act: linking and cutting. -/
import Derived.Test.YtgoocmocdimnoaaSweepAct
namespace Go.Proofs.Ytgoocmocdimnoaa
open Go.RowKit Plain
set_option linter.unusedVariables false
section
variable {base H g n : Nat} {ta : Option Addr} {tc : Nat} {rows : List TRow} {ts : List Thg} {ra : Option Addr} {rc : Nat} {rs : List Int} {bz : Bool} {w w' : World}
/-- the heap's memory behind a change of one thing's kids -/
theorem OH.kid (h : OH base H (some ⟨g, 0, none⟩) tc rows ra rc rs bz w) (hd : ∀ r ∈ rows, ra = none ∨ r.1 ≠ ra) (hp : DSk rows) (i : Nat) (hi : i < rows.length) (hg : w.grownBy w' (Value.slice rows[i].1 rows[i].2.2.1.length rows[i].2.1).ownBlock) {ka : Option Addr} {kc : Nat} {l : List Int} (hn : w'.ownsRow base 3 1 (.slice ka l.length kc) l.length (l.flatMap iC)) :
    OH base H (some ⟨g, 0, none⟩) tc (rows.set i (ka, kc, l, rows[i].2.2.2)) ra rc rs bz (w'.setCell ⟨g, i * 3, none⟩ (.slice ka l.length kc)) := by
  have hri := h.2.2.2.2 rows[i] (List.getElem_mem hi)
  have hH : w'.heap[H]? = some (.cells #[.slice (some ⟨g, 0, none⟩) rows.length tc, .slice ra rs.length rc, .bool bz] 80 (0, 0)) := (hg.block H (lt_of_block h.2.1) (own_neq hri h.2.1 (by decide))).trans h.2.1
  have hT : w'.ownsRow base 47 3 (.slice (some ⟨g, 0, none⟩) rows.length tc) rows.length (rows.flatMap tcC) := own_same h.2.2.1 fun k cs _ hh => hg.block k (lt_of_block hh) (own_neq hri hh (by decide))
  have hR : w'.ownsRow base 3 1 (.slice ra rs.length rc) rs.length (rs.flatMap iC) := h.2.2.2.1.kept hg (own_blocks h.2.2.2.1 hri (by
    rcases hd _ (List.getElem_mem hi) with e | e
    · exact .inl e
    · exact .inr (fun e' => e e'.symm)))
  have hK : ∀ (j : Nat) (hj : j < rows.length), j ≠ i → w'.ownsRow base 3 1 (.slice rows[j].1 rows[j].2.2.1.length rows[j].2.1) rows[j].2.2.1.length (rows[j].2.2.1.flatMap iC) := fun j hj hne => (h.2.2.2.2 rows[j] (List.getElem_mem hj)).kept hg (own_blocks (h.2.2.2.2 rows[j] (List.getElem_mem hj)) hri (hp j i hj hi hne))
  obtain ⟨cs, hgc⟩ : ∃ cs, w'.heap[g]? = some (.cells cs 47 (0, 0)) := by
    rcases hT.2 with ⟨hv, _⟩ | ⟨g', cap, cur, hv, _, hh, _⟩
    · cases hv
    · injection hv with hv
      injection hv with hv
      injection hv with hv
      subst hv
      exact ⟨cur, hh⟩
  have hS : ∀ {v : Value} {n : Nat} {xs : List Value}, w'.ownsRow base 3 1 v n xs → (w'.setCell ⟨g, i * 3, none⟩ (.slice ka l.length kc)).ownsRow base 3 1 v n xs := fun hr => own_store hr hgc (by decide) _ _
  refine ⟨h.1, ?_, ?_, hS hR, fun r hr => hS ?_⟩
  · rw [List.length_set, heap_setCell_other w' ⟨g, i * 3, none⟩ H _ (fun e => by subst e; rw [hH] at hgc; injection hgc with hgc; injection hgc with _ hgc; exact absurd hgc (by decide))]
    exact hH
  · have := (hT.stored (i * 3 + 0) (.slice ka l.length kc)).1
    rw [flat_set tcC_length rows i 0 (.slice ka l.length kc) (ka, kc, l, rows[i].2.2.2) hi (by decide) rfl] at this
    rw [List.length_set]
    exact this
  · obtain ⟨j, hj⟩ := List.getElem?_of_mem hr
    by_cases e : i = j
    · subst e
      rw [List.getElem?_set_self hi] at hj
      injection hj with hj
      subst hj
      exact hn
    · rw [List.getElem?_set_ne e] at hj
      obtain ⟨hjl, rfl⟩ := List.getElem?_eq_some_iff.1 hj
      exact hK j hjl (fun e' => e e'.symm)
theorem tK_kid (rows : List TRow) (i : Nat) (hi : i < rows.length) (ka : Option Addr) (kc : Nat) (l : List Int) : tK (rows.set i (ka, kc, l, rows[i].2.2.2)) = (tK rows).set i (l, rows[i].2.2.2) := tK_set rows i _
end
set_option maxRecDepth 100000 in
set_option maxHeartbeats 4000000 in
theorem act_link (base H : Nat) (ta : Option Addr) (tc : Nat) (rows : List TRow) (ra : Option Addr) (rc : Nat) (rs : List Int) (bz : Bool) (x y : Int) (w : World) (h : OH base H ta tc rows ra rc rs bz w) (hok : HOk (tK rows, rs, bz)) (hd : ∀ r ∈ rows, ra = none ∨ r.1 ≠ ra) (hp : DSk rows) :
    Calls Try.prog 41 #[.pointer (some ⟨H, 0, none⟩), .agg #[.int .i64 3, .int .i64 x, .int .i64 y]] w (ActEnd base H (stepF (tK rows, rs, bz) (3, x, y)) w) := by
  have h40 : rows.length ≤ 40 := by have := hok.1; rwa [show (tK rows, rs, bz).1 = tK rows from rfl, tK_length] at this
  have h64 : rs.length ≤ 64 := hok.2.1
  have hsz := h.size
  have HHL : Hid (H < w.heap.size) := lt_of_block h.2.1
  have HBA : Hid (Below w.heap.size w (w.alloc (.cells #[.int .i64 3, .int .i64 x, .int .i64 y] 43))) := (Below.refl w.heap.size w).alloc (Nat.le_refl _) (.cells #[.int .i64 3, .int .i64 x, .int .i64 y] 43)
  have HBX := Lib.hid (heap_alloc_new w (.cells #[.int .i64 3, .int .i64 x, .int .i64 y] 43))
  have HO := Lib.hid (h.below HBA.out)
  have HBB := Lib.hid (HBA.out.mono hsz)
  have HST : Hid (stepF (tK rows, rs, bz) (3, x, y) = linkF (tK rows, rs, bz) x y) := by show _ = _; rfl
  have HOK := Lib.hid hok
  have HD := Lib.hid hd
  have HP := Lib.hid hp
  have HLN := Lib.hid (tK_length rows)
  obtain ⟨i0, hi0, hz0, hz1, hz2⟩ := info_parts info_intS
  have HIL := Lib.hid fun (k : Int) (u : World) (hu : OH base H ta tc rows ra rc rs bz u) => isLiveB_any base H ta tc rows ra rc rs bz k u hu HOK.out
  have HLX := Lib.hid (lvB_true (h := (tK rows, rs, bz)) (k := x))
  have HLY := Lib.hid (lvB_true (h := (tK rows, rs, bz)) (k := y))
  have HIX := Lib.hid (HIL.out x _ HO.out)
  have HIY := Lib.hid (fun u hu => HIL.out y u hu)
  generalize lvB (tK rows, rs, bz) x = qx at *
  generalize lvB (tK rows, rs, bz) y = qy at *
  clear h hok hd hp
  go_enter Try.func41, Try.ntmps41
  go_wp2_with fail
  refine HIX.out.mono ?_
  rintro e w1 ⟨rfl, hb⟩
  have HB1 := Lib.hid (HBB.out.trans (hb.mono (Nat.le_trans hsz HBA.out.size)))
  have HO1 := Lib.hid (HO.out.below hb)
  have HBX1 := Lib.hid ((hb.block _ (lt_of_block HBX.out)).trans HBX.out)
  have e0 := cell_of_row w1 w.heap.size 0 _ _ _ HBX1.out
  have e1 := cell_of_row w1 w.heap.size 1 _ _ _ HBX1.out
  have e2 := cell_of_row w1 w.heap.size 2 _ _ _ HBX1.out
  simp only [List.getElem?_toArray, List.getElem?_cons_zero, List.getElem?_cons_succ] at e0 e1 e2
  clear hb
  cases qx with
  | false =>
    have HR : Hid (linkF (tK rows, rs, bz) x y = none) := by show _ = _; unfold linkF; rw [if_neg (fun h => by have := HLX.out.2 h.1; cases this)]
    go_wp2_with fail
    go_ret
    rw [HST.out, HR.out]
    exact ⟨HB1.out, 9, by decide, by decide, rfl⟩
  | true =>
    have HIY1 := Lib.hid (HIY.out w1 HO1.out)
    go_wp2_with fail
    refine HIY1.out.mono ?_
    rintro e w2 ⟨rfl, hb⟩
    have HB2 := Lib.hid (HB1.out.trans (hb.mono HO1.out.size))
    have HO2 := Lib.hid (HO1.out.below hb)
    have HBX2 := Lib.hid ((hb.block _ (lt_of_block HBX1.out)).trans HBX1.out)
    clear hb e0 e1 e2
    have e0 := cell_of_row w2 w.heap.size 0 _ _ _ HBX2.out
    have e1 := cell_of_row w2 w.heap.size 1 _ _ _ HBX2.out
    have e2 := cell_of_row w2 w.heap.size 2 _ _ _ HBX2.out
    simp only [List.getElem?_toArray, List.getElem?_cons_zero, List.getElem?_cons_succ] at e0 e1 e2
    cases qy with
    | false =>
      have HR : Hid (linkF (tK rows, rs, bz) x y = none) := by show _ = _; unfold linkF; rw [if_neg (fun h => by have := HLY.out.2 h.2; cases this)]
      go_wp2_with fail
      go_ret
      rw [HST.out, HR.out]
      exact ⟨HB2.out, 9, by decide, by decide, rfl⟩
    | true =>
      have hlx := HLX.out.1 (by first | rfl | trivial)
      have hly := HLY.out.1 (by first | rfl | trivial)
      obtain ⟨hx0, tx, htx, _⟩ := hlx.there HOK.out
      obtain ⟨hy0, ty, hty, _⟩ := hly.there HOK.out
      obtain ⟨xn, rfl⟩ := Int.eq_ofNat_of_zero_le hx0
      obtain ⟨yn, rfl⟩ := Int.eq_ofNat_of_zero_le hy0
      rw [Int.toNat_natCast] at htx hty
      have hxl : xn < rows.length := by rw [← HLN.out]; exact (List.getElem?_eq_some_iff.1 htx).1
      have hyl : yn < rows.length := by rw [← HLN.out]; exact (List.getElem?_eq_some_iff.1 hty).1
      have HTX : Hid ((tK rows)[xn]? = some rows[xn].2.2) := tK_get rows xn hxl
      have HRI : Hid (rows[xn] = (rows[xn].1, rows[xn].2.1, rows[xn].2.2.1, rows[xn].2.2.2)) := rfl
      have HKF := Lib.hid fun (u u' : World) (gg : Nat) (hu : OH base H (some ⟨gg, 0, none⟩) tc rows ra rc rs bz u) (ka : Option Addr) (kc : Nat) (l : List Int) hg hn => (OH.kid (w := u) (w' := u') (ka := ka) (kc := kc) (l := l) hu HD.out HP.out xn hxl hg hn)
      have HTQ0 := Lib.hid (fun ka kc l => tK_kid rows xn hxl ka kc l)
      have HRO := Lib.hid (HO2.out.2.2.2.2 rows[xn] (List.getElem_mem hxl))
      obtain ⟨g, rfl, hgb, hgl, hgH, c0, c1, c2, hf⟩ := HO2.out.thing xn hxl _ rfl
      have HGB := Lib.hid hgb
      have HGW : Hid (¬ w.heap.size = g) := fun e => by
        subst e
        exact own_neq HO2.out.2.2.1 HBX2.out (by decide) rfl
      generalize rows[xn] = r at *
      obtain ⟨ka, kc, kids, rest⟩ := r
      simp only at HTX HKF HTQ0 HRO c0 c1 c2
      have h0 := HO2.out.h0
      have m0 : (0 : Int) ≤ (xn : Int) := Int.natCast_nonneg _
      have m1 : (xn : Int) < (rows.length : Int) := by omega
      clear htx hty hx0 hy0 hgb hgl
      by_cases h64k : 64 ≤ kids.length
      · have m2 : (64 : Int) ≤ (kids.length : Int) := by omega
        have HR : Hid (linkF (tK rows, rs, bz) (xn : Int) (yn : Int) = none) := by show _ = _; unfold linkF; rw [if_pos ⟨hlx, hly⟩, Int.toNat_natCast]; simp only [HTX.out]; rw [if_pos h64k]
        clear hlx hly
        go_wp2_with fail
        go_region
        go_wp2_with fail
        go_ret
        rw [HST.out, HR.out]
        exact ⟨HB2.out.drew, 2, by decide, by decide, rfl⟩
      · have m2 : ¬ (64 : Int) ≤ (kids.length : Int) := by omega
        have HR : Hid (linkF (tK rows, rs, bz) (xn : Int) (yn : Int) = some (shade bz ((tK rows).set xn (kids ++ [(yn : Int)], rest)) (yn : Int), rs, bz)) := by show _ = _; unfold linkF; rw [if_pos ⟨hlx, hly⟩, Int.toNat_natCast]; simp only [HTX.out]; rw [if_neg h64k]
        clear hlx hly
        go_wp2_with fail
        go_region
        go_wp2_with fail
        have HOd : Hid (OH base H (some ⟨g, 0, none⟩) tc rows ra rc rs bz w2.drew.drew) := HO2.out
        have HXd : Hid (w2.drew.drew.heap[w.heap.size]? = some (.cells #[.int .i64 3, .int .i64 (xn : Int), .int .i64 (yn : Int)] 43 (0, 0))) := HBX2.out
        have HBd : Hid (Below base w w2.drew.drew) := HB2.out.drew.drew
        have HRd : Hid (w2.drew.drew.ownsRow base 3 1 (.slice ka kids.length kc) kids.length (kids.flatMap iC)) := HRO.out
        have cd : w2.drew.drew.cell? ⟨g, xn * 3, none⟩ = some (.slice ka kids.length kc) := c0
        refine wp_region_noPanic ?_
        refine wp_region_held_drew (S := fun w' => w'.cell? ⟨w.heap.size, 2, none⟩ = some (.int .i64 (yn : Int))) (by kernel_rfl) e2 (fun hS0 => ?_)
        have HS0 := Lib.hid hS0
        clear hS0
        refine take_val 0 (.pointer (some ⟨g, xn * 3, none⟩)) rfl (by kernel_rfl) (by kernel_rfl) (by kernel_rfl) (fun _ _ _ _ h => h) (by rfl) rfl (fun wz hS => by go_simp) HS0.out ?_
        try simp only [List.set_cons_zero, List.set_cons_succ]
        refine take_val 1 (.pointer (some ⟨g, xn * 3, none⟩)) rfl (by kernel_rfl) (by kernel_rfl) (by kernel_rfl) (fun _ _ _ _ h => h) (by rfl) rfl (fun wz hS => by go_simp) HS0.out ?_
        try simp only [List.set_cons_zero, List.set_cons_succ]
        refine take_val 2 (.pointer (some ⟨g, xn * 3, none⟩)) rfl (by kernel_rfl) (by kernel_rfl) (by kernel_rfl) (fun _ _ _ _ h => h) (by rfl) rfl (fun wz hS => by go_simp) HS0.out ?_
        try simp only [List.set_cons_zero, List.set_cons_succ]
        refine take_val 3 (.pointer (some ⟨g, xn * 3, none⟩)) rfl (by kernel_rfl) (by kernel_rfl) (by kernel_rfl) (fun _ _ _ _ h => h) (by rfl) rfl (fun wz hS => by go_simp) HS0.out ?_
        try simp only [List.set_cons_zero, List.set_cons_succ]
        refine take_val 5 (.pointer (some ⟨w.heap.size, 2, none⟩)) rfl (by kernel_rfl) (by kernel_rfl) (by kernel_rfl) (fun _ _ _ _ h => h) (by rfl) rfl (fun wz hS => by go_simp) HS0.out ?_
        try simp only [List.set_cons_zero, List.set_cons_succ]
        refine take_val 6 (.int .i64 (yn : Int)) rfl (by kernel_rfl) (by kernel_rfl) (by kernel_rfl) (fun _ _ _ _ h => h) (by rfl) rfl (fun wz hS => by go_simp) HS0.out ?_
        try simp only [List.set_cons_zero, List.set_cons_succ]
        generalize w2.drew.drew = wd at *
        have D1 := Lib.hid (cells_new_at (wd) (wd.heap.size) (by simp) #[.int .i64 (yn : Int)] 3 [.int .i64 (yn : Int)] rfl)
        have D2 : Hid (∀ u ∈ ([.int .i64 (yn : Int)] : List Value), u.oneCell' = true) := by intro u hu; simp only [List.mem_cons, List.not_mem_nil, or_false] at hu; rcases hu with rfl <;> rfl
        have D3 : Hid (kids.length + 1 ≤ maxLen) := by show _ ≤ _; unfold maxLen; omega
        have D4 : Hid ((kids.length + 1) * 8 ≤ 140737488355328) := by show _ ≤ _; omega
        have D5 : Hid (base ≤ ((wd).alloc (.cells #[.int .i64 (yn : Int)] 3)).heap.size) := by have := HOd.out.size; show _ ≤ _; simp; omega
        have HKA := Lib.hid (HRd.out.alloc (.cells #[.int .i64 (yn : Int)] 3))
        have hbA : Below wd.heap.size wd (wd.alloc (.cells #[.int .i64 (yn : Int)] 3)) := (Below.refl _ _).alloc (Nat.le_refl _) _
        have HOA := Lib.hid (HOd.out.below hbA)
        have HXA : Hid ((wd.alloc (.cells #[.int .i64 (yn : Int)] 3)).heap[w.heap.size]? = some (.cells #[.int .i64 3, .int .i64 (xn : Int), .int .i64 (yn : Int)] 43 (0, 0))) := (hbA.block _ (lt_of_block HXd.out)).trans HXd.out
        have ca : (wd.alloc (.cells #[.int .i64 (yn : Int)] 3)).cell? ⟨g, xn * 3, none⟩ = some (.slice ka kids.length kc) := Lib.cell?_alloc_some _ cd
        have HSA : Hid ((fun w' => w'.cell? ⟨w.heap.size, 2, none⟩ = some (.int .i64 (yn : Int))) (wd.alloc (.cells #[.int .i64 (yn : Int)] 3))) := Lib.cell?_alloc_some _ HS0.out
        have HLK := Lib.hid fun (u' : World) (ka2 : Option Addr) (kc2 : Nat) (hg : (wd.alloc (.cells #[.int .i64 (yn : Int)] 3)).grownBy u' (Value.slice ka kids.length kc).ownBlock) (hn : u'.ownsRow base 3 1 (.slice ka2 (kids.length + 1) kc2) (kids.length + 1) (kids.flatMap iC ++ [.int .i64 (yn : Int)])) => (show OH base H (some ⟨g, 0, none⟩) tc (rows.set xn (ka2, kc2, kids ++ [(yn : Int)], rest)) ra rc rs bz (u'.setCell ⟨g, xn * 3, none⟩ (.slice ka2 (kids.length + 1) kc2)) from by
          have e : (kids ++ [(yn : Int)]).length = kids.length + 1 := by simp
          have := HKF.out _ u' g HOA.out ka2 kc2 (kids ++ [(yn : Int)]) hg (by rw [e, List.flatMap_append]; exact hn)
          rwa [e] at this)
        have HTG := Lib.hid fun (u' : World) (hg : (wd.alloc (.cells #[.int .i64 (yn : Int)] 3)).grownBy u' (Value.slice ka kids.length kc).ownBlock) => (show ∃ cs, u'.heap[g]? = some (.cells cs 47 (0, 0)) from by
          rcases HOA.out.2.2.1.2 with ⟨hv, _⟩ | ⟨g', cap, cur, hv, _, hh, _⟩
          · cases hv
          · injection hv with hv
            injection hv with hv
            injection hv with hv
            subst hv
            exact ⟨cur, (hg.block _ (lt_of_block hh) (own_neq HKA.out hh (by decide))).trans hh⟩)
        have HSM := Lib.hid fun (u' : World) (hg : (wd.alloc (.cells #[.int .i64 (yn : Int)] 3)).grownBy u' (Value.slice ka kids.length kc).ownBlock) => (show (u'.cell? ⟨g, xn * 3, none⟩).isSome = true from by
          rcases HOA.out.2.2.1.2 with ⟨hv, _⟩ | ⟨g', cap, cur, hv, _, hh, _⟩
          · cases hv
          · injection hv with hv
            injection hv with hv
            injection hv with hv
            subst hv
            rw [World.cell?_of_block (a := ⟨g, xn * 3, none⟩) (hg.block _ (lt_of_block hh) (own_neq HKA.out hh (by decide))), ca]
            rfl)
        have HTQ := Lib.hid (HTQ0.out ka kc kids)
        have HTQ : Hid (∀ ka2 kc2, tK (rows.set xn (ka2, kc2, kids ++ [(yn : Int)], rest)) = (tK rows).set xn (kids ++ [(yn : Int)], rest)) := fun ka2 kc2 => HTQ0.out ka2 kc2 _
        clear hbA c0 c1 c2 hf h0
        refine two_ready 4 7 (by kernel_rfl) rfl rfl (by rfl) (by rfl) (fun K hK => ?_) (fun K hK => ?_)
        · go_simp
          refine hK.out _ _ HS0.out ?_
          clear hK K
          try simp only [Act.put, List.setIfInBounds_toArray]
          try simp only [List.set_cons_zero, List.set_cons_succ]
          refine one_ready 7 (by kernel_rfl) rfl (by rfl) (fun K hK => ?_)
          go_simp
          refine hK.out _ _ HSA.out ?_
          clear hK K
          try simp only [Act.put, List.setIfInBounds_toArray]
          try simp only [List.set_cons_zero, List.set_cons_succ]
          refine one_ready 8 (by kernel_rfl) rfl (by rfl) (fun K hK => ?_)
          refine wp_append_own _ _ _ 23 rfl base 3 i0 (.int .i64 0) 1 8 Try.underlying23 hi0 hz0 hz1 hz2 rfl (by decide) _ _ _ rfl HKA.out ⟨wd.heap.size, 0, none⟩ 1 1 [.int .i64 (yn : Int)] rfl rfl D1.out D2.out D3.out D4.out D5.out ?_
          intro v' w3 hown' hgrow _
          obtain ⟨ka2, kc2, rfl⟩ := own_formS hown'
          have HN := Lib.hid (HLK.out w3 ka2 kc2 hgrow hown')
          have hB2 : w3.heap[w.heap.size]? = _ := (hgrow.block _ (lt_of_block HXA.out) (own_neq HKA.out HXA.out (by decide))).trans HXA.out
          have s2 := cell_of_row w3 w.heap.size 2 _ _ _ hB2
          simp only [List.getElem?_toArray, List.getElem?_cons_zero, List.getElem?_cons_succ] at s2
          have HS2 := Lib.hid s2
          obtain ⟨cx, hgc⟩ := HTG.out w3 hgrow
          have fx2 := frozen_of_row w3 g (xn * 3) _ _ hgc
          have hsm : (w3.cell? ⟨g, xn * 3, none⟩).isSome = true := HSM.out w3 hgrow
          obtain ⟨ox, hox⟩ := Option.isSome_iff_exists.1 hsm
          have hgw : ¬ w.heap.size = g := HGW.out
          have HS3 : Hid ((w3.setCell ⟨g, xn * 3, none⟩ (.slice ka2 (kids.length + 1) kc2)).cell? ⟨w.heap.size, 2, none⟩ = some (.int .i64 (yn : Int))) := (World.cell?_of_block (a := ⟨w.heap.size, 2, none⟩) (heap_setCell_other w3 ⟨g, xn * 3, none⟩ _ _ hgw)).trans s2
          have HB3 : Hid (Below base w (w3.setCell ⟨g, xn * 3, none⟩ (.slice ka2 (kids.length + 1) kc2))) := (below_own (HBd.out.alloc HOd.out.size (.cells #[.int .i64 (yn : Int)] 3)) hgrow D5.out HKA.out (Nat.le_refl _)).setCell (p := ⟨g, xn * 3, none⟩) HGB.out _
          clear hgrow hown' hB2 s2 hgc hsm
          refine hK.out _ _ HS2.out ?_
          clear hK K
          try simp only [Act.put, List.setIfInBounds_toArray]
          try simp only [List.set_cons_zero, List.set_cons_succ]
          refine take_val 9 (.pointer (some ⟨g, xn * 3, none⟩)) rfl (by kernel_rfl) (by kernel_rfl) (by kernel_rfl) (fun _ _ _ _ h => h) (by rfl) rfl (fun wz hS => by go_simp) HS2.out ?_
          try simp only [List.set_cons_zero, List.set_cons_succ]
          refine take_val 10 (.pointer (some ⟨g, xn * 3, none⟩)) rfl (by kernel_rfl) (by kernel_rfl) (by kernel_rfl) (fun _ _ _ _ h => h) (by rfl) rfl (fun wz hS => by go_simp) HS2.out ?_
          try simp only [List.set_cons_zero, List.set_cons_succ]
          refine one_ready 11 (by kernel_rfl) rfl (by rfl) (fun K hK => ?_)
          go_simp
          refine hK.out _ _ HS3.out ?_
          clear hK K
          try simp only [Act.put, List.setIfInBounds_toArray]
          try simp only [List.set_cons_zero, List.set_cons_succ]
          refine wpAnyH_done (by kernel_rfl) ?_ _
          refine NoPanic.normal ?_
          have s3 := HS3.out
          have HSH := Lib.hid (shade_any base H _ tc (rows.set xn (ka2, kc2, kids ++ [(yn : Int)], rest)) ra rc rs bz yn _ HN.out (by rw [List.length_set]; exact hyl) (by rw [List.length_set]; omega))
          go_wp2_with fail
          refine HSH.out.mono ?_
          rintro e w5 ⟨rfl, ⟨vows, k1, k2, k3⟩, hb⟩
          have HK1 := Lib.hid k1
          have HK3 := Lib.hid k3
          have HB5 := Lib.hid (HB3.out.trans hb)
          clear k1 k2 k3 hb
          go_wp2_with fail
          go_ret
          rw [HST.out, HR.out]
          exact ⟨HB5.out, rfl, _, _, _, _, _, _, _, HK1.out, by rw [HK3.out, HTQ.out]⟩
        · go_simp
          refine hK.out _ _ HSA.out ?_
          clear hK K
          try simp only [Act.put, List.setIfInBounds_toArray]
          try simp only [List.set_cons_zero, List.set_cons_succ]
          refine one_ready 4 (by kernel_rfl) rfl (by rfl) (fun K hK => ?_)
          go_simp
          refine hK.out _ _ HSA.out ?_
          clear hK K
          try simp only [Act.put, List.setIfInBounds_toArray]
          try simp only [List.set_cons_zero, List.set_cons_succ]
          refine one_ready 8 (by kernel_rfl) rfl (by rfl) (fun K hK => ?_)
          refine wp_append_own _ _ _ 23 rfl base 3 i0 (.int .i64 0) 1 8 Try.underlying23 hi0 hz0 hz1 hz2 rfl (by decide) _ _ _ rfl HKA.out ⟨wd.heap.size, 0, none⟩ 1 1 [.int .i64 (yn : Int)] rfl rfl D1.out D2.out D3.out D4.out D5.out ?_
          intro v' w3 hown' hgrow _
          obtain ⟨ka2, kc2, rfl⟩ := own_formS hown'
          have HN := Lib.hid (HLK.out w3 ka2 kc2 hgrow hown')
          have hB2 : w3.heap[w.heap.size]? = _ := (hgrow.block _ (lt_of_block HXA.out) (own_neq HKA.out HXA.out (by decide))).trans HXA.out
          have s2 := cell_of_row w3 w.heap.size 2 _ _ _ hB2
          simp only [List.getElem?_toArray, List.getElem?_cons_zero, List.getElem?_cons_succ] at s2
          have HS2 := Lib.hid s2
          obtain ⟨cx, hgc⟩ := HTG.out w3 hgrow
          have fx2 := frozen_of_row w3 g (xn * 3) _ _ hgc
          have hsm : (w3.cell? ⟨g, xn * 3, none⟩).isSome = true := HSM.out w3 hgrow
          obtain ⟨ox, hox⟩ := Option.isSome_iff_exists.1 hsm
          have hgw : ¬ w.heap.size = g := HGW.out
          have HS3 : Hid ((w3.setCell ⟨g, xn * 3, none⟩ (.slice ka2 (kids.length + 1) kc2)).cell? ⟨w.heap.size, 2, none⟩ = some (.int .i64 (yn : Int))) := (World.cell?_of_block (a := ⟨w.heap.size, 2, none⟩) (heap_setCell_other w3 ⟨g, xn * 3, none⟩ _ _ hgw)).trans s2
          have HB3 : Hid (Below base w (w3.setCell ⟨g, xn * 3, none⟩ (.slice ka2 (kids.length + 1) kc2))) := (below_own (HBd.out.alloc HOd.out.size (.cells #[.int .i64 (yn : Int)] 3)) hgrow D5.out HKA.out (Nat.le_refl _)).setCell (p := ⟨g, xn * 3, none⟩) HGB.out _
          clear hgrow hown' hB2 s2 hgc hsm
          refine hK.out _ _ HS2.out ?_
          clear hK K
          try simp only [Act.put, List.setIfInBounds_toArray]
          try simp only [List.set_cons_zero, List.set_cons_succ]
          refine take_val 9 (.pointer (some ⟨g, xn * 3, none⟩)) rfl (by kernel_rfl) (by kernel_rfl) (by kernel_rfl) (fun _ _ _ _ h => h) (by rfl) rfl (fun wz hS => by go_simp) HS2.out ?_
          try simp only [List.set_cons_zero, List.set_cons_succ]
          refine take_val 10 (.pointer (some ⟨g, xn * 3, none⟩)) rfl (by kernel_rfl) (by kernel_rfl) (by kernel_rfl) (fun _ _ _ _ h => h) (by rfl) rfl (fun wz hS => by go_simp) HS2.out ?_
          try simp only [List.set_cons_zero, List.set_cons_succ]
          refine one_ready 11 (by kernel_rfl) rfl (by rfl) (fun K hK => ?_)
          go_simp
          refine hK.out _ _ HS3.out ?_
          clear hK K
          try simp only [Act.put, List.setIfInBounds_toArray]
          try simp only [List.set_cons_zero, List.set_cons_succ]
          refine wpAnyH_done (by kernel_rfl) ?_ _
          refine NoPanic.normal ?_
          have s3 := HS3.out
          have HSH := Lib.hid (shade_any base H _ tc (rows.set xn (ka2, kc2, kids ++ [(yn : Int)], rest)) ra rc rs bz yn _ HN.out (by rw [List.length_set]; exact hyl) (by rw [List.length_set]; omega))
          go_wp2_with fail
          refine HSH.out.mono ?_
          rintro e w5 ⟨rfl, ⟨vows, k1, k2, k3⟩, hb⟩
          have HK1 := Lib.hid k1
          have HK3 := Lib.hid k3
          have HB5 := Lib.hid (HB3.out.trans hb)
          clear k1 k2 k3 hb
          go_wp2_with fail
          go_ret
          rw [HST.out, HR.out]
          exact ⟨HB5.out, rfl, _, _, _, _, _, _, _, HK1.out, by rw [HK3.out, HTQ.out]⟩
end Go.Proofs.Ytgoocmocdimnoaa
