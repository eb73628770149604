/- The walk of sweep's copyOf. -/
import Derived.Test.YtgoocmocdimnoaaSweepAct3
namespace Go.Proofs.Ytgoocmocdimnoaa
open Go.RowKit Plain
set_option linter.unusedVariables false
section
variable {base H g n : Nat} {ta : Option Addr} {tc : Nat} {rows : List TRow} {ts : List Thg} {ra : Option Addr} {rc : Nat} {rs : List Int} {bz : Bool} {w w' : World}
/-- the heap's memory behind a growing of the row of its things by any thing -/
theorem OH.grownX (h : OH base H ta tc rows ra rc rs bz w) (hg : w.grownBy w' (Value.slice ta rows.length tc).ownBlock) (r : TRow) (hro : w.ownsRow base 3 1 (.slice r.1 r.2.2.1.length r.2.1) r.2.2.1.length (r.2.2.1.flatMap iC)) {ta' : Option Addr} {tc' : Nat} (hn : w'.ownsRow base 47 3 (.slice ta' (rows.length + 1) tc') (rows.length + 1) (rows.flatMap tcC ++ tcC r)) :
    OH base H ta' tc' (rows ++ [r]) ra rc rs bz (w'.setCell ⟨H, 0, none⟩ (.slice ta' (rows.length + 1) tc')) := by
  have hH : w'.heap[H]? = some (.cells #[.slice ta rows.length tc, .slice ra rs.length rc, .bool bz] 80 (0, 0)) := (hg.block H (lt_of_block h.2.1) (own_neq h.2.2.1 h.2.1 (by decide))).trans h.2.1
  have hne : ∀ {e : TypeId} {k : Nat} {v : Value} {n : Nat} {xs : List Value}, w'.ownsRow base e k v n xs → e ≠ 80 → (w'.setCell ⟨H, 0, none⟩ (.slice ta' (rows.length + 1) tc')).ownsRow base e k v n xs := fun hr ht => own_store hr hH ht 0 _
  have hI : ∀ {v : Value} {n : Nat} {xs : List Value}, w.ownsRow base 3 1 v n xs → w'.ownsRow base 3 1 v n xs := fun {v n xs} hr => own_same hr fun k cs hk hh => hg.block k (lt_of_block hh) (own_neq h.2.2.1 hh (by decide))
  refine ⟨h.1, ?_, ?_, hne (hI h.2.2.2.1) (by decide), fun r' hr => hne ?_ (by decide)⟩
  · have := heap_setCell_same w' H 0 _ _ (.slice ta' (rows.length + 1) tc') hH
    rw [List.length_append]
    simpa using this
  · rw [List.length_append, List.flatMap_append]
    simp only [List.flatMap_cons, List.flatMap_nil, List.append_nil]
    exact hne hn (by decide)
  · rcases List.mem_append.1 hr with hr | hr
    · exact hI (h.2.2.2.2 r' hr)
    · simp only [List.mem_singleton] at hr
      subst hr
      exact hI hro
end
theorem row_range3 {w : World} {b : Nat} {t : TypeId} {l : List Value} (h : w.heap[b]? = some (.cells l.toArray t (0, 0))) : w.rangeAt b 0 l := fun j v hj => by
  rw [Nat.zero_add, cell_of_row _ _ _ _ _ _ h]
  simpa using hj
def CpEnd (h : List TRow) (rs : List Int) (bz : Bool) (w0 : World) (e : Ending) (w : World) : Prop := Below w0.heap.size w0 w ∧ ∃ H ta tc vows ra rc, e = .returned (.pointer (some ⟨H, 0, none⟩)) ∧ OH w0.heap.size H ta tc vows ra rc rs bz w ∧ tK vows = tK h ∧ (∀ r ∈ vows, ra = none ∨ r.1 ≠ ra) ∧ DSk vows
/-- where the copying stands -/
def CpAt (rows : List TRow) (rs : List Int) (bz : Bool) (base H : Nat) (oa : Option Addr) (oc i : Nat) (w : World) : Prop := ∃ ta tc vows, OH base H ta tc vows oa oc rs bz w ∧ tK vows = (tK rows).take i ∧ (∀ r ∈ vows, oa = none ∨ r.1 ≠ oa) ∧ DSk vows ∧ vows.length = i
def addrLt (a : Option Addr) (n : Nat) : Prop := ∀ p, a = some p → p.block < n
theorem own_addr {w : World} {base : Nat} {e : TypeId} {k n c : Nat} {a : Option Addr} {xs : List Value} (h : w.ownsRow base e k (.slice a n c) n xs) : addrLt a w.heap.size ∧ ∀ p, a = some p → base ≤ p.block := by
  rcases own_one h with rfl | ⟨g, rfl, h1, h2⟩
  · exact ⟨(fun p hp => by cases hp), (fun p hp => by cases hp)⟩
  · exact ⟨(fun p hp => by injection hp with hp; subst hp; exact h2), (fun p hp => by injection hp with hp; subst hp; exact h1)⟩
theorem dsk_app {vows : List TRow} {r : TRow} {n : Nat} (h : DSk vows) (hl : ∀ s ∈ vows, addrLt s.1 n) (hr : ∀ p, r.1 = some p → n ≤ p.block) : DSk (vows ++ [r]) := by
  intro i j hi hj hne
  rw [List.length_append, List.length_singleton] at hi hj
  by_cases h1 : i < vows.length
  · rw [List.getElem_append_left h1]
    by_cases h2 : j < vows.length
    · rw [List.getElem_append_left h2]
      exact h i j h1 h2 hne
    · rw [List.getElem_append_right (by omega)]
      simp only [show j - vows.length = 0 by omega, List.getElem_cons_zero]
      cases hv : vows[i].1 with
      | none => exact .inl rfl
      | some p =>
        right
        intro e
        have a1 := hl _ (List.getElem_mem h1) p hv
        have a2 := hr p e.symm
        omega
  · rw [List.getElem_append_right (by omega)]
    simp only [show i - vows.length = 0 by omega, List.getElem_cons_zero]
    rw [List.getElem_append_left (by omega)]
    cases hv : r.1 with
    | none => exact .inl rfl
    | some p =>
      right
      intro e
      have a1 := hl _ (List.getElem_mem (show j < vows.length by omega)) p e.symm
      have a2 := hr p hv
      omega
theorem own_weak {w : World} {base base' : Nat} {e : TypeId} {k n : Nat} {v : Value} {xs : List Value} (h : w.ownsRow base e k v n xs) (hb : base' ≤ base) : w.ownsRow base' e k v n xs := by
  refine ⟨h.1, ?_⟩
  rcases h.2 with h0 | ⟨g, cap, cur, hv, hg, hr⟩
  · exact .inl h0
  · exact .inr ⟨g, cap, cur, hv, Nat.le_trans hb hg, hr⟩
set_option maxRecDepth 100000 in
set_option maxHeartbeats 4000000 in
theorem copy_any (a : Option Addr) (tc : Nat) (rows : List TRow) (b : Option Addr) (rc : Nat) (rs : List Int) (bz : Bool) (w : World) (h : TAt w a rows) (hk : SAt 1 iC w b rs) (hok : HOk (tK rows, rs, bz)) :
    Calls Try.prog 40 #[.agg #[.slice a rows.length tc, .slice b rs.length rc, .bool bz]] w (CpEnd rows rs bz w) := by
  obtain ⟨i0, hi0, hz0, hz1, hz2⟩ := info_parts info_thg
  have h40 : rows.length ≤ 40 := by have := hok.1; rwa [show (tK rows, rs, bz).1 = tK rows from rfl, tK_length] at this
  have h64 : rs.length ≤ 64 := hok.2.1
  have HKL : Hid (∀ r ∈ rows, r.2.2.1.length ≤ 64) := fun r hr => (hok.2.2.1 r.2.2 (List.mem_map.2 ⟨r, hr, rfl⟩)).1
  have HB := Lib.hid ((Below.refl w.heap.size w).alloc (Nat.le_refl _) (.cells #[.slice a rows.length tc, .slice b rs.length rc, .bool bz] 41))
  have HBX := Lib.hid (heap_alloc_new w (.cells #[.slice a rows.length tc, .slice b rs.length rc, .bool bz] 41))
  have HS := Lib.hid h
  have HK := Lib.hid hk
  have HLN := Lib.hid (tK_length rows)
  have HICT : Hid ((Try.prog.info? 47).map (·.size) = some 3) := by show _ = _; kernel_rfl
  have huT := Try.underlying47
  have HUT := Lib.hid huT
  clear h hk hok huT
  go_enter Try.func40, Try.ntmps40
  go_wp2_with fail
  have HXd : Hid ((w.alloc (.cells #[.slice a rows.length tc, .slice b rs.length rc, .bool bz] 41)).drew.heap[w.heap.size]? = some (.cells #[.slice a rows.length tc, .slice b rs.length rc, .bool bz] 41 (0, 0))) := HBX.out
  have HBd : Hid (Below w.heap.size w (w.alloc (.cells #[.slice a rows.length tc, .slice b rs.length rc, .bool bz] 41)).drew) := HB.out.drew
  refine wp_region_noPanic ?_
  refine wp_region_held_drew (S := fun u => u.heap[w.heap.size]? = some (.cells #[.slice a rows.length tc, .slice b rs.length rc, .bool bz] 41 (0, 0))) (by kernel_rfl) HBX.out (fun hS0 => ?_)
  have HS0 := Lib.hid hS0
  clear hS0
  refine take_val 0 (.pointer (some ⟨w.heap.size, 1, none⟩)) rfl (by kernel_rfl) (by kernel_rfl) (by kernel_rfl) (fun _ _ _ _ h => h) (by rfl) rfl (fun wz hS => by go_simp) HS0.out ?_
  try simp only [List.set_cons_zero, List.set_cons_succ]
  refine take_val 1 (.slice b rs.length rc) rfl (by kernel_rfl) (by kernel_rfl) (by kernel_rfl) (fun _ _ _ _ h => h) (by rfl) rfl (fun wz hS => by have eb := cell_of_row wz w.heap.size 1 _ _ _ hS; simp only [List.getElem?_toArray, List.getElem?_cons_zero, List.getElem?_cons_succ] at eb; go_simp) HS0.out ?_
  try simp only [List.set_cons_zero, List.set_cons_succ]
  refine take_val 3 (.pointer (some ⟨w.heap.size, 2, none⟩)) rfl (by kernel_rfl) (by kernel_rfl) (by kernel_rfl) (fun _ _ _ _ h => h) (by rfl) rfl (fun wz hS => by go_simp) HS0.out ?_
  try simp only [List.set_cons_zero, List.set_cons_succ]
  refine take_val 4 (.bool bz) rfl (by kernel_rfl) (by kernel_rfl) (by kernel_rfl) (fun _ _ _ _ h => h) (by rfl) rfl (fun wz hS => by have eb := cell_of_row wz w.heap.size 2 _ _ _ hS; simp only [List.getElem?_toArray, List.getElem?_cons_zero, List.getElem?_cons_succ] at eb; go_simp) HS0.out ?_
  try simp only [List.set_cons_zero, List.set_cons_succ]
  generalize (w.alloc (.cells #[.slice a rows.length tc, .slice b rs.length rc, .bool bz] 41)).drew = wd at *
  have HCL := Lib.hid (clone_any b rc rs wd (HK.out.below HBd.out) (by omega))
  refine one_ready 2 (by kernel_rfl) rfl (by rfl) (fun K hK => ?_)
  go_simp
  refine HCL.out.mono ?_
  rintro e w1 ⟨hb, oa, oc, rfl, hown⟩
  have HX1 := Lib.hid ((hb.block _ (lt_of_block HXd.out)).trans HXd.out)
  have HB1 := Lib.hid (HBd.out.trans (hb.mono HBd.out.size))
  have HRO := Lib.hid (own_weak hown HBd.out.size)
  clear hb hown
  go_wp2_with fail
  refine hK.out _ _ HX1.out ?_
  clear hK K
  try simp only [Act.put, List.setIfInBounds_toArray]
  try simp only [List.set_cons_zero, List.set_cons_succ]
  refine take_val 5 (.agg #[.slice none 0 0, .slice oa rs.length oc, .bool bz]) rfl (by kernel_rfl) (by kernel_rfl) (by kernel_rfl) (fun _ _ _ _ h => h) (by rfl) rfl (fun wz hS => by go_simp) HX1.out ?_
  try simp only [List.set_cons_zero, List.set_cons_succ]
  refine take_val 6 (.agg #[.slice none 0 0, .slice oa rs.length oc, .bool bz]) rfl (by kernel_rfl) (by kernel_rfl) (by kernel_rfl) (fun _ _ _ _ h => h) (by rfl) rfl (fun wz hS => by go_simp) HX1.out ?_
  try simp only [List.set_cons_zero, List.set_cons_succ]
  refine one_ready 7 (by kernel_rfl) rfl (by rfl) (fun K hK => ?_)
  go_simp
  have HB2 : Hid (Below w.heap.size w (w1.alloc (.cells #[.slice none 0 0, .slice oa rs.length oc, .bool bz] 80))) := HB1.out.alloc HB1.out.size _
  have HX2 : Hid ((w1.alloc (.cells #[.slice none 0 0, .slice oa rs.length oc, .bool bz] 80)).heap[w.heap.size]? = some (.cells #[.slice a rows.length tc, .slice b rs.length rc, .bool bz] 41 (0, 0))) := (Below.heap_alloc w1 _ _ (lt_of_block HX1.out)).trans HX1.out
  have HC0 : Hid (CpAt rows rs bz w.heap.size w1.heap.size oa oc 0 (w1.alloc (.cells #[.slice none 0 0, .slice oa rs.length oc, .bool bz] 80))) := ⟨none, 0, [], ⟨HB1.out.size, heap_alloc_new w1 _, World.ownsRow_nil _ _ _ _, HRO.out.alloc _, by simp⟩, by simp [tK], by simp, fun i j hi => absurd hi (by simp), rfl⟩
  refine hK.out _ _ HX2.out ?_
  clear hK K
  try simp only [Act.put, List.setIfInBounds_toArray]
  try simp only [List.set_cons_zero, List.set_cons_succ]
  refine one_ready 8 (by kernel_rfl) rfl (by rfl) (fun K hK => ?_)
  go_simp
  refine hK.out _ _ HX2.out ?_
  clear hK K
  try simp only [Act.put, List.setIfInBounds_toArray]
  try simp only [List.set_cons_zero, List.set_cons_succ]
  refine wpAnyH_done (by kernel_rfl) ?_ _
  refine NoPanic.normal ?_
  obtain ⟨H, hH⟩ : ∃ H, w1.heap.size = H := ⟨_, rfl⟩
  rw [hH]
  rw [hH] at HC0
  generalize w1.alloc (.cells #[.slice none 0 0, .slice oa rs.length oc, .bool bz] 80) = w2 at *
  have e0 := cell_of_row w2 w.heap.size 0 _ _ _ HX2.out
  simp only [List.getElem?_toArray, List.getElem?_cons_zero] at e0
  go_wp2_with fail
  go_loopw [17] (fun iv wr => ∃ i : Nat, i ≤ rows.length ∧ iv = .int .i64 (i : Int) ∧ Below w.heap.size w wr ∧ CpAt rows rs bz w.heap.size H oa oc i wr) (fun iv _ => rows.length - (intOf iv).toNat)
  case atStart => exact ⟨0, by omega, rfl, HB2.out, HC0.out⟩
  case round =>
    obtain ⟨i, hi, rfl, hbr, ta', tc', vows, hoh, htk, hd, hp, hvl⟩ := hrel
    have HBR := Lib.hid hbr
    have HOH := Lib.hid hoh
    have HTK := Lib.hid htk
    have HD := Lib.hid hd
    have HP := Lib.hid hp
    have HVL := Lib.hid hvl
    clear hbr hoh htk hd hp hvl e0
    by_cases hlt : i < rows.length
    · have m1 : (i : Int) < (rows.length : Int) := by omega
      have m0 : (0 : Int) ≤ (i : Int) := Int.natCast_nonneg _
      have HSR := Lib.hid (HS.out.below HBR.out)
      have HTQ : Hid ((tK rows).take (i + 1) = (tK rows).take i ++ [rows[i].2.2]) := by
        show _ = _
        rw [List.take_add_one, tK_get rows i hlt]
        rfl
      have HMEM := Lib.hid (HSR.out.2 rows[i] (List.getElem_mem hlt))
      have HKL1 := Lib.hid (HKL.out rows[i] (List.getElem_mem hlt))
      obtain ⟨g, off, rfl, hg, c0, c1, c2⟩ := HSR.out.1.thg i hlt _ rfl
      generalize rows[i] = r at *
      obtain ⟨ka, kc, kids, col, fr⟩ := r
      simp only at c0 c1 c2 HMEM HKL1 HTQ
      have hkl1 := HKL1.out
      have hbA : Below wr.heap.size wr (wr.alloc (.cells #[.slice ka kids.length kc, .int .i64 col, .bool fr] 47)) := (Below.refl _ _).alloc (Nat.le_refl _) _
      have HBA := Lib.hid hbA
      have HXN := Lib.hid (heap_alloc_new wr (.cells #[.slice ka kids.length kc, .int .i64 col, .bool fr] 47))
      have HCL2 := Lib.hid (clone_any ka kc kids (wr.alloc (.cells #[.slice ka kids.length kc, .int .i64 col, .bool fr] 47)) (HMEM.out.1.below hbA) (by omega))
      clear hbA hg
      go_wp2_with fail
      refine HCL2.out.mono ?_
      rintro e w3 ⟨hb, ka2, kc2, rfl, hown⟩
      have hX3 := (hb.block wr.heap.size (by simp)).trans HXN.out
      have HX3 := Lib.hid hX3
      have HB3 : Hid (Below wr.heap.size wr (w3.setCell ⟨wr.heap.size, 0, none⟩ (.slice ka2 kids.length kc2))) := (HBA.out.trans (hb.mono (by simp))).setCell (p := ⟨wr.heap.size, 0, none⟩) (Nat.le_refl _) _
      have HX4 : Hid ((w3.setCell ⟨wr.heap.size, 0, none⟩ (.slice ka2 kids.length kc2)).heap[wr.heap.size]? = some (.cells #[.slice ka2 kids.length kc2, .int .i64 col, .bool fr] 47 (0, 0))) := by
        have := heap_setCell_same w3 wr.heap.size 0 _ _ (.slice ka2 kids.length kc2) hX3
        show _ = _
        simpa using this
      have HRO4 : Hid ((w3.setCell ⟨wr.heap.size, 0, none⟩ (.slice ka2 kids.length kc2)).ownsRow w.heap.size 3 1 (.slice ka2 kids.length kc2) kids.length (kids.flatMap iC)) := own_store (own_weak hown (Nat.le_trans HBR.out.size (by simp))) hX3 (by decide) 0 _
      have HAD : Hid (∀ p, ka2 = some p → wr.heap.size ≤ p.block) := fun p hp => Nat.le_trans (by simp) ((own_addr hown).2 p hp)
      have x3 := cell_of_row w3 wr.heap.size 0 _ _ _ hX3
      simp only [List.getElem?_toArray, List.getElem?_cons_zero] at x3
      have f3 := frozen_of_row w3 wr.heap.size 0 _ _ hX3
      clear hb hown hX3 c0 c1 c2
      go_wp2_with fail
      have HOH4 := Lib.hid (HOH.out.below HB3.out)
      have HXd : Hid ((w3.setCell ⟨wr.heap.size, 0, none⟩ (.slice ka2 kids.length kc2)).drew.heap[wr.heap.size]? = some (.cells #[.slice ka2 kids.length kc2, .int .i64 col, .bool fr] 47 (0, 0))) := HX4.out
      have HOd : Hid (OH w.heap.size H ta' tc' vows oa oc rs bz (w3.setCell ⟨wr.heap.size, 0, none⟩ (.slice ka2 kids.length kc2)).drew) := HOH4.out
      have HRd : Hid ((w3.setCell ⟨wr.heap.size, 0, none⟩ (.slice ka2 kids.length kc2)).drew.ownsRow w.heap.size 3 1 (.slice ka2 kids.length kc2) kids.length (kids.flatMap iC)) := HRO4.out
      have HBdd : Hid (Below w.heap.size w (w3.setCell ⟨wr.heap.size, 0, none⟩ (.slice ka2 kids.length kc2)).drew) := (HBR.out.trans (HB3.out.mono HBR.out.size)).drew
      have HWS : Hid (wr.heap.size ≤ (w3.setCell ⟨wr.heap.size, 0, none⟩ (.slice ka2 kids.length kc2)).drew.heap.size) := HB3.out.size
      refine wp_region_noPanic ?_
      refine wp_region_held_drew (S := fun u => u.heap[wr.heap.size]? = some (.cells #[.slice ka2 kids.length kc2, .int .i64 col, .bool fr] 47 (0, 0))) (by kernel_rfl) HX4.out (fun hS0 => ?_)
      have HS0 := Lib.hid hS0
      clear hS0
      refine take_val 0 (.pointer (some ⟨H, 0, none⟩)) rfl (by kernel_rfl) (by kernel_rfl) (by kernel_rfl) (fun _ _ _ _ h => h) (by rfl) rfl (fun wz hS => by go_simp) HS0.out ?_
      try simp only [List.set_cons_zero, List.set_cons_succ]
      refine take_val 1 (.pointer (some ⟨H, 0, none⟩)) rfl (by kernel_rfl) (by kernel_rfl) (by kernel_rfl) (fun _ _ _ _ h => h) (by rfl) rfl (fun wz hS => by go_simp) HS0.out ?_
      try simp only [List.set_cons_zero, List.set_cons_succ]
      refine take_val 2 (.pointer (some ⟨H, 0, none⟩)) rfl (by kernel_rfl) (by kernel_rfl) (by kernel_rfl) (fun _ _ _ _ h => h) (by rfl) rfl (fun wz hS => by go_simp) HS0.out ?_
      try simp only [List.set_cons_zero, List.set_cons_succ]
      refine take_val 3 (.pointer (some ⟨H, 0, none⟩)) rfl (by kernel_rfl) (by kernel_rfl) (by kernel_rfl) (fun _ _ _ _ h => h) (by rfl) rfl (fun wz hS => by go_simp) HS0.out ?_
      try simp only [List.set_cons_zero, List.set_cons_succ]
      refine take_val 4 (.pointer (some ⟨H, 0, none⟩)) rfl (by kernel_rfl) (by kernel_rfl) (by kernel_rfl) (fun _ _ _ _ h => h) (by rfl) rfl (fun wz hS => by go_simp) HS0.out ?_
      try simp only [List.set_cons_zero, List.set_cons_succ]
      refine take_row 6 rfl (by kernel_rfl) (by kernel_rfl) (by kernel_rfl) (fun _ _ _ _ h => h) (by rfl) rfl rfl rfl (fun u hS => row_range3 hS) HUT.out rfl HICT.out HS0.out ?_
      try simp only [List.set_cons_zero, List.set_cons_succ]
      generalize (w3.setCell ⟨wr.heap.size, 0, none⟩ (.slice ka2 kids.length kc2)).drew = wd at *
      have hvl40 : vows.length ≤ 40 := by rw [HVL.out]; omega
      have D1 := Lib.hid (cells_new_at (wd) (wd.heap.size) (by simp) #[.slice ka2 kids.length kc2, .int .i64 col, .bool fr] 47 [.slice ka2 kids.length kc2, .int .i64 col, .bool fr] rfl)
      have D2 : Hid (∀ u ∈ ([.slice ka2 kids.length kc2, .int .i64 col, .bool fr] : List Value), u.oneCell' = true) := by intro u hu; simp only [List.mem_cons, List.not_mem_nil, or_false] at hu; rcases hu with rfl | rfl | rfl <;> rfl
      have D3 : Hid (vows.length + 1 ≤ maxLen) := by show _ ≤ _; unfold maxLen; omega
      have D4 : Hid ((vows.length + 1) * 40 ≤ 140737488355328) := by show _ ≤ _; omega
      have D5 : Hid (w.heap.size ≤ ((wd).alloc (.cells #[.slice ka2 kids.length kc2, .int .i64 col, .bool fr] 47)).heap.size) := by have := HBdd.out.size; show _ ≤ _; simp; omega
      have HTN := Lib.hid (HOd.out.2.2.1.alloc (.cells #[.slice ka2 kids.length kc2, .int .i64 col, .bool fr] 47))
      have hbA2 : Below wd.heap.size wd (wd.alloc (.cells #[.slice ka2 kids.length kc2, .int .i64 col, .bool fr] 47)) := (Below.refl _ _).alloc (Nat.le_refl _) _
      have HOA := Lib.hid (HOd.out.below hbA2)
      have HXA : Hid ((wd.alloc (.cells #[.slice ka2 kids.length kc2, .int .i64 col, .bool fr] 47)).heap[wr.heap.size]? = some (.cells #[.slice ka2 kids.length kc2, .int .i64 col, .bool fr] 47 (0, 0))) := (hbA2.block _ (lt_of_block HXd.out)).trans HXd.out
      have HRA := Lib.hid (HRd.out.alloc (.cells #[.slice ka2 kids.length kc2, .int .i64 col, .bool fr] 47))
      have hd0 := HOd.out.h0
      have ha0 := HOA.out.h0
      have HNE : Hid (some wr.heap.size ≠ (Value.slice ta' vows.length tc').ownBlock) := fun e => by
        rcases own_one HOH.out.2.2.1 with e' | ⟨g', e', _, h2⟩
        · rw [e'] at e; cases e
        · rw [e'] at e
          simp only [Value.ownBlock] at e
          injection e with e
          omega
      clear hbA2
      refine two_ready 5 7 (by kernel_rfl) rfl rfl (by rfl) (by rfl) (fun K hK => ?_) (fun K hK => ?_)
      · go_simp
        refine hK.out _ _ HS0.out ?_
        clear hK K
        try simp only [Act.put, List.setIfInBounds_toArray]
        try simp only [List.set_cons_zero, List.set_cons_succ]
        refine one_ready 7 (by kernel_rfl) rfl (by rfl) (fun K hK => ?_)
        go_simp
        refine hK.out _ _ HXA.out ?_
        clear hK K
        try simp only [Act.put, List.setIfInBounds_toArray]
        try simp only [List.set_cons_zero, List.set_cons_succ]
        refine one_ready 8 (by kernel_rfl) rfl (by rfl) (fun K hK => ?_)
        refine wp_append_own _ _ _ 39 rfl w.heap.size 47 i0 (.agg #[.slice none 0 0, .int .i64 0, .bool false]) 3 40 Try.underlying39 hi0 hz0 hz1 hz2 rfl (by decide) _ _ _ rfl HTN.out ⟨wd.heap.size, 0, none⟩ 1 1 [.slice ka2 kids.length kc2, .int .i64 col, .bool fr] rfl rfl D1.out D2.out D3.out D4.out D5.out ?_
        intro v' w5 hown' hgrow _
        obtain ⟨ta2, tc2, rfl⟩ := own_formS hown'
        have HN := Lib.hid (HOA.out.grownX hgrow (ka2, kc2, kids, col, fr) HRA.out hown')
        have hX5 : w5.heap[wr.heap.size]? = some (.cells #[.slice ka2 kids.length kc2, .int .i64 col, .bool fr] 47 (0, 0)) := (hgrow.block _ (lt_of_block HXA.out) HNE.out).trans HXA.out
        have HX5 := Lib.hid hX5
        have hH5 := (hgrow.block H (lt_of_block HOA.out.2.1) (own_neq HOA.out.2.2.1 HOA.out.2.1 (by decide))).trans HOA.out.2.1
        have x5 := cell_of_row w5 H 0 _ _ _ hH5
        simp only [List.getElem?_toArray, List.getElem?_cons_zero] at x5
        have f5 := frozen_of_row w5 H 0 _ _ hH5
        have HB5 : Hid (Below w.heap.size w (w5.setCell ⟨H, 0, none⟩ (.slice ta2 (vows.length + 1) tc2))) := (below_own (HBdd.out.alloc HBdd.out.size (.cells #[.slice ka2 kids.length kc2, .int .i64 col, .bool fr] 47)) hgrow D5.out HTN.out (Nat.le_refl _)).setCell (p := ⟨H, 0, none⟩) HOd.out.1 _
        have HXH : Hid (wr.heap.size ≠ H) := fun e => by have := lt_of_block HOH.out.2.1; omega
        have HX6 : Hid ((w5.setCell ⟨H, 0, none⟩ (.slice ta2 (vows.length + 1) tc2)).heap[wr.heap.size]? = some (.cells #[.slice ka2 kids.length kc2, .int .i64 col, .bool fr] 47 (0, 0))) := (heap_setCell_other w5 ⟨H, 0, none⟩ _ _ HXH.out).trans hX5
        clear hgrow hown' hX5 hH5
        refine hK.out _ _ HX5.out ?_
        clear hK K
        try simp only [Act.put, List.setIfInBounds_toArray]
        try simp only [List.set_cons_zero, List.set_cons_succ]
        refine take_val 9 (.pointer (some ⟨H, 0, none⟩)) rfl (by kernel_rfl) (by kernel_rfl) (by kernel_rfl) (fun _ _ _ _ h => h) (by rfl) rfl (fun wz hS => by go_simp) HX5.out ?_
        try simp only [List.set_cons_zero, List.set_cons_succ]
        refine take_val 10 (.pointer (some ⟨H, 0, none⟩)) rfl (by kernel_rfl) (by kernel_rfl) (by kernel_rfl) (fun _ _ _ _ h => h) (by rfl) rfl (fun wz hS => by go_simp) HX5.out ?_
        try simp only [List.set_cons_zero, List.set_cons_succ]
        refine take_val 11 (.pointer (some ⟨H, 0, none⟩)) rfl (by kernel_rfl) (by kernel_rfl) (by kernel_rfl) (fun _ _ _ _ h => h) (by rfl) rfl (fun wz hS => by go_simp) HX5.out ?_
        try simp only [List.set_cons_zero, List.set_cons_succ]
        refine one_ready 12 (by kernel_rfl) rfl (by rfl) (fun K hK => ?_)
        go_simp
        refine hK.out _ _ HX6.out ?_
        clear hK K
        try simp only [Act.put, List.setIfInBounds_toArray]
        try simp only [List.set_cons_zero, List.set_cons_succ]
        refine wpAnyH_done (by kernel_rfl) ?_ _
        refine NoPanic.normal ?_
        have HCN : Hid (CpAt rows rs bz w.heap.size H oa oc (i + 1) (w5.setCell ⟨H, 0, none⟩ (.slice ta2 (vows.length + 1) tc2))) := by
          refine ⟨ta2, tc2, _, HN.out, ?_, fun r hr => ?_, dsk_app (n := wr.heap.size) HP.out (fun s hs => (own_addr (HOH.out.2.2.2.2 s hs)).1) HAD.out, by rw [List.length_append, HVL.out]; rfl⟩
          · rw [HTQ.out, ← HTK.out]
            simp [tK]
          · rcases List.mem_append.1 hr with hr | hr
            · exact HD.out r hr
            · simp only [List.mem_singleton] at hr
              subst hr
              cases ho : oa with
              | none => exact .inl rfl
              | some p =>
                right
                intro e
                have a1 := (own_addr HOH.out.2.2.2.1).1 p ho
                have a2 := HAD.out p e
                omega
        go_wp2_with fail
        go_roundw
        case rel => exact ⟨i + 1, by omega, by go_num, HB5.out, HCN.out⟩
        case measure => simp [intOf]; omega
      · go_simp
        refine hK.out _ _ HXA.out ?_
        clear hK K
        try simp only [Act.put, List.setIfInBounds_toArray]
        try simp only [List.set_cons_zero, List.set_cons_succ]
        refine one_ready 5 (by kernel_rfl) rfl (by rfl) (fun K hK => ?_)
        go_simp
        refine hK.out _ _ HXA.out ?_
        clear hK K
        try simp only [Act.put, List.setIfInBounds_toArray]
        try simp only [List.set_cons_zero, List.set_cons_succ]
        refine one_ready 8 (by kernel_rfl) rfl (by rfl) (fun K hK => ?_)
        refine wp_append_own _ _ _ 39 rfl w.heap.size 47 i0 (.agg #[.slice none 0 0, .int .i64 0, .bool false]) 3 40 Try.underlying39 hi0 hz0 hz1 hz2 rfl (by decide) _ _ _ rfl HTN.out ⟨wd.heap.size, 0, none⟩ 1 1 [.slice ka2 kids.length kc2, .int .i64 col, .bool fr] rfl rfl D1.out D2.out D3.out D4.out D5.out ?_
        intro v' w5 hown' hgrow _
        obtain ⟨ta2, tc2, rfl⟩ := own_formS hown'
        have HN := Lib.hid (HOA.out.grownX hgrow (ka2, kc2, kids, col, fr) HRA.out hown')
        have hX5 : w5.heap[wr.heap.size]? = some (.cells #[.slice ka2 kids.length kc2, .int .i64 col, .bool fr] 47 (0, 0)) := (hgrow.block _ (lt_of_block HXA.out) HNE.out).trans HXA.out
        have HX5 := Lib.hid hX5
        have hH5 := (hgrow.block H (lt_of_block HOA.out.2.1) (own_neq HOA.out.2.2.1 HOA.out.2.1 (by decide))).trans HOA.out.2.1
        have x5 := cell_of_row w5 H 0 _ _ _ hH5
        simp only [List.getElem?_toArray, List.getElem?_cons_zero] at x5
        have f5 := frozen_of_row w5 H 0 _ _ hH5
        have HB5 : Hid (Below w.heap.size w (w5.setCell ⟨H, 0, none⟩ (.slice ta2 (vows.length + 1) tc2))) := (below_own (HBdd.out.alloc HBdd.out.size (.cells #[.slice ka2 kids.length kc2, .int .i64 col, .bool fr] 47)) hgrow D5.out HTN.out (Nat.le_refl _)).setCell (p := ⟨H, 0, none⟩) HOd.out.1 _
        have HXH : Hid (wr.heap.size ≠ H) := fun e => by have := lt_of_block HOH.out.2.1; omega
        have HX6 : Hid ((w5.setCell ⟨H, 0, none⟩ (.slice ta2 (vows.length + 1) tc2)).heap[wr.heap.size]? = some (.cells #[.slice ka2 kids.length kc2, .int .i64 col, .bool fr] 47 (0, 0))) := (heap_setCell_other w5 ⟨H, 0, none⟩ _ _ HXH.out).trans hX5
        clear hgrow hown' hX5 hH5
        refine hK.out _ _ HX5.out ?_
        clear hK K
        try simp only [Act.put, List.setIfInBounds_toArray]
        try simp only [List.set_cons_zero, List.set_cons_succ]
        refine take_val 9 (.pointer (some ⟨H, 0, none⟩)) rfl (by kernel_rfl) (by kernel_rfl) (by kernel_rfl) (fun _ _ _ _ h => h) (by rfl) rfl (fun wz hS => by go_simp) HX5.out ?_
        try simp only [List.set_cons_zero, List.set_cons_succ]
        refine take_val 10 (.pointer (some ⟨H, 0, none⟩)) rfl (by kernel_rfl) (by kernel_rfl) (by kernel_rfl) (fun _ _ _ _ h => h) (by rfl) rfl (fun wz hS => by go_simp) HX5.out ?_
        try simp only [List.set_cons_zero, List.set_cons_succ]
        refine take_val 11 (.pointer (some ⟨H, 0, none⟩)) rfl (by kernel_rfl) (by kernel_rfl) (by kernel_rfl) (fun _ _ _ _ h => h) (by rfl) rfl (fun wz hS => by go_simp) HX5.out ?_
        try simp only [List.set_cons_zero, List.set_cons_succ]
        refine one_ready 12 (by kernel_rfl) rfl (by rfl) (fun K hK => ?_)
        go_simp
        refine hK.out _ _ HX6.out ?_
        clear hK K
        try simp only [Act.put, List.setIfInBounds_toArray]
        try simp only [List.set_cons_zero, List.set_cons_succ]
        refine wpAnyH_done (by kernel_rfl) ?_ _
        refine NoPanic.normal ?_
        have HCN : Hid (CpAt rows rs bz w.heap.size H oa oc (i + 1) (w5.setCell ⟨H, 0, none⟩ (.slice ta2 (vows.length + 1) tc2))) := by
          refine ⟨ta2, tc2, _, HN.out, ?_, fun r hr => ?_, dsk_app (n := wr.heap.size) HP.out (fun s hs => (own_addr (HOH.out.2.2.2.2 s hs)).1) HAD.out, by rw [List.length_append, HVL.out]; rfl⟩
          · rw [HTQ.out, ← HTK.out]
            simp [tK]
          · rcases List.mem_append.1 hr with hr | hr
            · exact HD.out r hr
            · simp only [List.mem_singleton] at hr
              subst hr
              cases ho : oa with
              | none => exact .inl rfl
              | some p =>
                right
                intro e
                have a1 := (own_addr HOH.out.2.2.2.1).1 p ho
                have a2 := HAD.out p e
                omega
        go_wp2_with fail
        go_roundw
        case rel => exact ⟨i + 1, by omega, by go_num, HB5.out, HCN.out⟩
        case measure => simp [intOf]; omega
    · have m1 : ¬ (i : Int) < (rows.length : Int) := by omega
      go_wp2_with fail
      go_ret
      exact ⟨HBR.out, H, ta', tc', vows, oa, oc, rfl, HOH.out, by rw [HTK.out, List.take_of_length_le (by rw [HLN.out]; omega)], HD.out, HP.out⟩
end Go.Proofs.Ytgoocmocdimnoaa
