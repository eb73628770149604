/- The walks of slices.IndexFunc over things and of sweep's fresh. -/
import Derived.Test.YtgoocmocdimnoaaSweepRoot
import Derived.Test.YtgoocmocdimnoaaWords
import Derived.Test.YtgoocmocdimnoaaDrawn
namespace Go.Proofs.Ytgoocmocdimnoaa
open Go.RowKit Plain
set_option linter.unusedVariables false
def IxEnd (o : Option Nat) (n : Nat) (w0 : World) (e : Ending) (w : World) : Prop := Below w0.heap.size w0 w ∧ match o with
  | some i => e = .returned (.int .i64 (i : Int)) ∧ i < n
  | none => e = .returned (.int .i64 (-1))
set_option maxRecDepth 100000 in
theorem greyAt1_any (ka : Option Addr) (kl kc : Nat) (col : Int) (fr : Bool) (w : World) : Calls Try.prog 65 #[.agg #[.slice ka kl kc, .int .i64 col, .bool fr]] w fun e w' => e = .returned (.bool (col == 1)) ∧ Below w.heap.size w w' := by
  have HB := Lib.hid ((Below.refl w.heap.size w).alloc (Nat.le_refl _) (.cells #[.slice ka kl kc, .int .i64 col, .bool fr] 47))
  by_cases hc : col = 1
  · subst hc
    go_enter Try.func65, Try.ntmps65
    go_wp2_with fail
    go_ret
    exact ⟨rfl, HB.out⟩
  · have h1 : (col == 1) = false := by simpa using hc
    rw [h1]
    go_enter Try.func65, Try.ntmps65
    go_wp2_with fail
    go_ret
    exact ⟨rfl, HB.out⟩
set_option maxRecDepth 100000 in
theorem greyAt_any (a : Option Addr) (cap : Nat) (rows : List TRow) (w : World) (h : SAt 3 tcC w a rows) (hl : rows.length ≤ 9223372036854775807) :
    Calls Try.prog 64 #[.slice a rows.length cap, .func (Fn.func 65) #[] #[]] w (IxEnd (greyAt (tK rows)) rows.length w) := by
  have HS := Lib.hid h
  have HLN := Lib.hid (tK_length rows)
  clear h
  go_enter Try.func64, Try.ntmps64
  go_wp2_with fail
  go_loopw [8] (fun iv wr => ∃ i : Nat, i ≤ rows.length ∧ iv = .int .i64 (i : Int) ∧ Below w.heap.size w wr ∧ ∀ (j : Nat) (t : Thg), j < i → (tK rows)[j]? = some t → (t.2.1 == 1) = false) (fun iv _ => rows.length - (intOf iv).toNat)
  case atStart => exact ⟨0, by omega, rfl, Below.refl _ _, fun j t h => absurd h (Nat.not_lt_zero _)⟩
  case round =>
    obtain ⟨i, hi, rfl, hbr, hall⟩ := hrel
    have HBR := Lib.hid hbr
    have HALL := Lib.hid hall
    clear hbr hall
    by_cases hlt : i < rows.length
    · have m1 : (i : Int) < (rows.length : Int) := by omega
      have HTK := Lib.hid (tK_get rows i hlt)
      obtain ⟨g, off, rfl, hg, c0, c1, c2⟩ := (HS.out.below HBR.out).thg i hlt _ rfl
      generalize rows[i] = r at *
      obtain ⟨ka, kc, kids, col, fr⟩ := r
      simp only at c0 c1 c2
      have HC := Lib.hid (fun wx => greyAt1_any ka kids.length kc col fr wx)
      obtain ⟨q, hq⟩ : ∃ q : Bool, (col == 1) = q := ⟨_, rfl⟩
      rw [hq] at HC
      have HQ := Lib.hid hq
      clear hq hg
      cases q with
      | true =>
        have HX : Hid (greyAt (tK rows) = some i) := by
          show _ = _
          have hlt' : i < (tK rows).length := by rw [HLN.out]; exact hlt
          refine List.findIdx?_eq_some_iff_getElem.2 ⟨hlt', ?_, fun j hj => ?_⟩
          · have := HTK.out
            rw [List.getElem?_eq_getElem hlt'] at this
            injection this with this
            rw [this]
            try exact HQ.out
          · have := HALL.out j _ hj (List.getElem?_eq_getElem (by omega))
            simpa using this
        go_wp2_with fail
        refine (HC.out _).mono ?_
        rintro e w' ⟨rfl, hb⟩
        have HB' := Lib.hid (Below.step HBR.out hb)
        clear hb
        go_wp2_with fail
        go_ret
        exact ⟨HB'.out, by rw [HX.out]; exact ⟨rfl, hlt⟩⟩
      | false =>
        have HN : Hid (∀ (j : Nat) (t : Thg), j < i + 1 → (tK rows)[j]? = some t → (t.2.1 == 1) = false) := fun j t hj ht => by
          by_cases e : j < i
          · exact HALL.out j t e ht
          · obtain rfl : j = i := by omega
            rw [HTK.out] at ht
            injection ht with ht
            subst ht
            exact HQ.out
        go_wp2_with fail
        refine (HC.out _).mono ?_
        rintro e w' ⟨rfl, hb⟩
        have HB' := Lib.hid (Below.step HBR.out hb)
        clear hb
        go_wp2_with fail
        go_roundw
        case rel => exact ⟨i + 1, by omega, by go_num, HB'.out, HN.out⟩
        case measure => simp [intOf]; omega
    · have m1 : ¬ (i : Int) < (rows.length : Int) := by omega
      have HX : Hid (greyAt (tK rows) = none) := by
        show _ = _
        refine List.findIdx?_eq_none_iff.2 fun t ht => ?_
        obtain ⟨j, hj⟩ := List.getElem?_of_mem ht
        have hjl := (List.getElem?_eq_some_iff.1 hj).1
        rw [HLN.out] at hjl
        exact HALL.out j t (by omega) hj
      go_wp2_with fail
      go_ret
      exact ⟨HBR.out, by rw [HX.out]; rfl⟩
set_option maxRecDepth 100000 in
theorem freeAt1_any (ka : Option Addr) (kl kc : Nat) (col : Int) (fr : Bool) (w : World) : Calls Try.prog 66 #[.agg #[.slice ka kl kc, .int .i64 col, .bool fr]] w fun e w' => e = .returned (.bool (fr)) ∧ Below w.heap.size w w' := by
  have HB := Lib.hid ((Below.refl w.heap.size w).alloc (Nat.le_refl _) (.cells #[.slice ka kl kc, .int .i64 col, .bool fr] 47))
  go_enter Try.func66, Try.ntmps66
  go_wp2_with fail
  go_ret
  exact ⟨rfl, HB.out⟩
set_option maxRecDepth 100000 in
theorem freeAt_any (a : Option Addr) (cap : Nat) (rows : List TRow) (w : World) (h : SAt 3 tcC w a rows) (hl : rows.length ≤ 9223372036854775807) :
    Calls Try.prog 64 #[.slice a rows.length cap, .func (Fn.func 66) #[] #[]] w (IxEnd (freeAt (tK rows)) rows.length w) := by
  have HS := Lib.hid h
  have HLN := Lib.hid (tK_length rows)
  clear h
  go_enter Try.func64, Try.ntmps64
  go_wp2_with fail
  go_loopw [8] (fun iv wr => ∃ i : Nat, i ≤ rows.length ∧ iv = .int .i64 (i : Int) ∧ Below w.heap.size w wr ∧ ∀ (j : Nat) (t : Thg), j < i → (tK rows)[j]? = some t → (t.2.2) = false) (fun iv _ => rows.length - (intOf iv).toNat)
  case atStart => exact ⟨0, by omega, rfl, Below.refl _ _, fun j t h => absurd h (Nat.not_lt_zero _)⟩
  case round =>
    obtain ⟨i, hi, rfl, hbr, hall⟩ := hrel
    have HBR := Lib.hid hbr
    have HALL := Lib.hid hall
    clear hbr hall
    by_cases hlt : i < rows.length
    · have m1 : (i : Int) < (rows.length : Int) := by omega
      have HTK := Lib.hid (tK_get rows i hlt)
      obtain ⟨g, off, rfl, hg, c0, c1, c2⟩ := (HS.out.below HBR.out).thg i hlt _ rfl
      generalize rows[i] = r at *
      obtain ⟨ka, kc, kids, col, fr⟩ := r
      simp only at c0 c1 c2
      have HC := Lib.hid (fun wx => freeAt1_any ka kids.length kc col fr wx)
      clear hg
      cases fr with
      | true =>
        have HQ : Hid (true = true) := rfl
        have HX : Hid (freeAt (tK rows) = some i) := by
          show _ = _
          have hlt' : i < (tK rows).length := by rw [HLN.out]; exact hlt
          refine List.findIdx?_eq_some_iff_getElem.2 ⟨hlt', ?_, fun j hj => ?_⟩
          · have := HTK.out
            rw [List.getElem?_eq_getElem hlt'] at this
            injection this with this
            rw [this]
            try exact HQ.out
          · have := HALL.out j _ hj (List.getElem?_eq_getElem (by omega))
            simpa using this
        go_wp2_with fail
        refine (HC.out _).mono ?_
        rintro e w' ⟨rfl, hb⟩
        have HB' := Lib.hid (Below.step HBR.out hb)
        clear hb
        go_wp2_with fail
        go_ret
        exact ⟨HB'.out, by rw [HX.out]; exact ⟨rfl, hlt⟩⟩
      | false =>
        have HQ : Hid (false = false) := rfl
        have HN : Hid (∀ (j : Nat) (t : Thg), j < i + 1 → (tK rows)[j]? = some t → (t.2.2) = false) := fun j t hj ht => by
          by_cases e : j < i
          · exact HALL.out j t e ht
          · obtain rfl : j = i := by omega
            rw [HTK.out] at ht
            injection ht with ht
            subst ht
            exact HQ.out
        go_wp2_with fail
        refine (HC.out _).mono ?_
        rintro e w' ⟨rfl, hb⟩
        have HB' := Lib.hid (Below.step HBR.out hb)
        clear hb
        go_wp2_with fail
        go_roundw
        case rel => exact ⟨i + 1, by omega, by go_num, HB'.out, HN.out⟩
        case measure => simp [intOf]; omega
    · have m1 : ¬ (i : Int) < (rows.length : Int) := by omega
      have HX : Hid (freeAt (tK rows) = none) := by
        show _ = _
        refine List.findIdx?_eq_none_iff.2 fun t ht => ?_
        obtain ⟨j, hj⟩ := List.getElem?_of_mem ht
        have hjl := (List.getElem?_eq_some_iff.1 hj).1
        rw [HLN.out] at hjl
        exact HALL.out j t (by omega) hj
      go_wp2_with fail
      go_ret
      exact ⟨HBR.out, by rw [HX.out]; rfl⟩
section
variable {base H g : Nat} {ta : Option Addr} {tc : Nat} {rows : List TRow} {ra : Option Addr} {rc : Nat} {rs : List Int} {bz : Bool} {w w' : World}
/-- a thing is laid anew, whole -/
theorem OH.put (h : OH base H (some ⟨g, 0, none⟩) tc rows ra rc rs bz w) (i : Nat) (hi : i < rows.length) (f : Bool) : OH base H (some ⟨g, 0, none⟩) tc (rows.set i (none, 0, [], 0, f)) ra rc rs bz (w.setCells g (i * 3) [.slice none 0 0, .int .i64 0, .bool f]) := by
  have hset : ∀ x : TRow, (rows.set i x).length = rows.length := fun x => List.length_set
  refine h.things (hset _) ?_ (fun k hk => heap_setCells_other g k hk _ _ _) (fun r hr => ?_)
  · rw [hset]
    have h1 := (h.2.2.1.stored (i * 3 + 0) (.slice none 0 0)).1
    rw [flat_set tcC_length rows i 0 (.slice none 0 0) (none, 0, [], rows[i].2.2.2.1, rows[i].2.2.2.2) hi (by decide) rfl] at h1
    have h2 := (h1.stored (i * 3 + 1) (.int .i64 0)).1
    rw [flat_set tcC_length _ i 1 (.int .i64 0) (none, 0, [], 0, rows[i].2.2.2.2) (by rw [hset]; exact hi) (by decide) (by rw [List.getElem_set_self]; rfl), List.set_set] at h2
    have h3 := (h2.stored (i * 3 + 2) (.bool f)).1
    rw [flat_set tcC_length _ i 2 (.bool f) (none, 0, [], 0, f) (by rw [hset]; exact hi) (by decide) (by rw [List.getElem_set_self]; rfl), List.set_set] at h3
    exact h3
  · rcases List.mem_or_eq_of_mem_set hr with hr | rfl
    · exact .inl ⟨r, hr, rfl, rfl, rfl⟩
    · exact .inr ⟨rfl, rfl, rfl⟩
theorem tK_set (rows : List TRow) (i : Nat) (x : TRow) : tK (rows.set i x) = (tK rows).set i x.2.2 := by unfold tK; rw [List.map_set]
theorem OH.there (h : OH base H (some ⟨g, 0, none⟩) tc rows ra rc rs bz w) (i : Nat) (hi : i < rows.length) : w.there g (i * 3) 3 := by
  obtain ⟨g', e, _, _, _, c0, c1, c2, hf⟩ := h.thing i hi _ rfl
  injection e with e
  injection e with e
  subst e
  intro j hj
  refine ⟨?_, hf _⟩
  match j, hj with
  | 0, _ => rw [Nat.add_zero, c0]; rfl
  | 1, _ => rw [c1]; rfl
  | 2, _ => rw [c2]; rfl
/-- the heap's memory behind a growing of the row of its things -/
theorem OH.grownT (h : OH base H ta tc rows ra rc rs bz w) (hg : w.grownBy w' (Value.slice ta rows.length tc).ownBlock) {ta' : Option Addr} {tc' : Nat} (hn : w'.ownsRow base 47 3 (.slice ta' (rows.length + 1) tc') (rows.length + 1) (rows.flatMap tcC ++ [.slice none 0 0, .int .i64 0, .bool false])) :
    OH base H ta' tc' (rows ++ [(none, 0, newT)]) ra rc rs bz (w'.setCell ⟨H, 0, none⟩ (.slice ta' (rows.length + 1) tc')) := by
  have hH : w'.heap[H]? = some (.cells #[.slice ta rows.length tc, .slice ra rs.length rc, .bool bz] 80 (0, 0)) := (hg.block H (lt_of_block h.2.1) (own_neq h.2.2.1 h.2.1 (by decide))).trans h.2.1
  have hne : ∀ {e : TypeId} {k : Nat} {v : Value} {n : Nat} {xs : List Value}, w'.ownsRow base e k v n xs → e ≠ 80 → (w'.setCell ⟨H, 0, none⟩ (.slice ta' (rows.length + 1) tc')).ownsRow base e k v n xs := fun hr ht => own_store hr hH ht 0 _
  have hI : ∀ {v : Value} {n : Nat} {xs : List Value}, w.ownsRow base 3 1 v n xs → w'.ownsRow base 3 1 v n xs := fun {v n xs} hr => own_same hr fun k cs hk hh => hg.block k (lt_of_block hh) (own_neq h.2.2.1 hh (by decide))
  refine ⟨h.1, ?_, ?_, hne (hI h.2.2.2.1) (by decide), fun r hr => hne ?_ (by decide)⟩
  · have := heap_setCell_same w' H 0 _ _ (.slice ta' (rows.length + 1) tc') hH
    rw [List.length_append]
    simpa using this
  · rw [List.length_append, List.flatMap_append]
    exact hne hn (by decide)
  · rcases List.mem_append.1 hr with hr | hr
    · exact hI (h.2.2.2.2 r hr)
    · simp only [List.mem_singleton] at hr
      subst hr
      exact World.ownsRow_nil _ _ _ _
theorem tK_app (rows : List TRow) : tK (rows ++ [(none, 0, newT)]) = tK rows ++ [newT] := by simp [tK]
end
theorem ActEnd.code {base H : Nat} {res : Option Hp} {w0 w : World} {e : Ending} (h : ActEnd base H res w0 e w) : ∃ c : Nat, c ≤ 20 ∧ e = .returned (.int .i64 (c : Int)) := by
  have h2 := h.2
  cases res with
  | none => obtain ⟨c, _, h1, rfl⟩ := h2; exact ⟨c, h1, rfl⟩
  | some g => exact ⟨0, by decide, h2.1⟩
theorem info_thg : (Try.prog.info? 47).map (fun i => (i.zero, i.size, i.bytes)) = some (some (.agg #[.slice none 0 0, .int .i64 0, .bool false]), 3, 40) := by kernel_rfl
set_option maxRecDepth 100000 in
set_option maxHeartbeats 1000000 in
theorem fresh_any (base H : Nat) (ta : Option Addr) (tc : Nat) (rows : List TRow) (ra : Option Addr) (rc : Nat) (rs : List Int) (bz : Bool) (w : World) (h : OH base H ta tc rows ra rc rs bz w) (hd : ∀ r ∈ rows, ra = none ∨ r.1 ≠ ra) (hr : rows.length ≤ 40) (hb64 : rs.length ≤ 64) :
    Calls Try.prog 56 #[.pointer (some ⟨H, 0, none⟩)] w (ActEnd base H (freshF (tK rows, rs, bz)) w) := by
  obtain ⟨i0, hi0, hz0, hz1, hz2⟩ := info_parts info_thg
  have HSN : Hid ((Try.prog.info? 47).map (·.size) = some (#[.slice none 0 0, .int .i64 0, .bool false] : Array Value).size) := by show _ = _; kernel_rfl
  have HON : Hid ((#[.slice none 0 0, .int .i64 0, .bool false] : Array Value).all (·.oneCell') = true) := by show _ = _; simp [Value.oneCell']
  have HIX := Lib.hid (freeAt_any ta tc rows w h.sat (by omega))
  have HO := Lib.hid h
  have HD := Lib.hid hd
  have hsz := h.size
  have HHL : Hid (H < w.heap.size) := lt_of_block h.2.1
  have x0 := h.h0
  have fx := h.fz 0
  have HLN := Lib.hid (tK_length rows)
  clear h hd
  go_enter Try.func56, Try.ntmps56
  go_wp2_with fail
  refine HIX.out.mono ?_
  rintro e w1 ⟨hb, hm⟩
  have HB1 := Lib.hid hb
  have HBW := Lib.hid (hb.mono hsz)
  have HO1 := Lib.hid (HO.out.below hb)
  have hsz1 := HO1.out.size
  have y0 := HO1.out.h0
  have y1 := HO1.out.h1
  have fy := HO1.out.fz 0
  clear hb HIX x0 fx
  cases hfa : freeAt (tK rows) with
  | some i =>
    rw [hfa] at hm
    obtain ⟨rfl, hi⟩ := hm
    have HFA := Lib.hid hfa
    clear hfa
    have m0 : (0 : Int) ≤ (i : Int) := Int.natCast_nonneg _
    have m1 : (i : Int) < (rows.length : Int) := by omega
    have m2 : ¬ (i : Int) < 0 := by omega
    by_cases h64 : 64 ≤ rs.length
    · have m3 : (64 : Int) ≤ (rs.length : Int) := by omega
      have HR : Hid (freshF (tK rows, rs, bz) = none) := by show _ = _; unfold freshF; simp only [HFA.out]; unfold rootF; rw [if_pos h64]
      go_wp2_with fail
      go_ret
      rw [HR.out]
      exact ⟨HBW.out, 2, by decide, by decide, rfl⟩
    · have m3 : ¬ (64 : Int) ≤ (rs.length : Int) := by omega
      have HR : Hid (freshF (tK rows, rs, bz) = rootF (tK (rows.set i (none, 0, [], 0, false)), rs, bz) (i : Int)) := by show _ = _; unfold freshF; simp only [HFA.out, tK_set]; rfl
      obtain ⟨g, rfl, hg1, hg2, hgH, _⟩ := HO1.out.thing i hi _ rfl
      have HTH := Lib.hid (HO1.out.there i hi)
      have HP := Lib.hid (HO1.out.put i hi false)
      have BW2 := Lib.hid (HBW.out.trans (below_setCells hg1 [.slice none 0 0, .int .i64 0, .bool false] (i * 3) (Below.refl base w1)))
      have HRT := Lib.hid (root_any base H _ tc (rows.set i (none, 0, [], 0, false)) ra rc rs bz i _ HP.out (fun r hr => by
        rcases List.mem_or_eq_of_mem_set hr with hr | rfl
        · exact HD.out r hr
        · cases ra with
          | none => exact .inl rfl
          | some x => exact .inr (by simp)) (by rw [List.length_set]; exact hi) (by rw [List.length_set]; omega) (by omega))
      go_wp2_with (with_reducible refine wpList_store_mid rfl 47 (.tmp 55) (.tmp 54) rfl g (i * 3) #[.slice none 0 0, .int .i64 0, .bool false] (by show Value.pointer _ = _; simp) rfl HTH.out HSN.out HON.out ?_)
      refine HRT.out.mono ?_
      rintro e w3 hact
      obtain ⟨c, hc20, rfl⟩ := hact.code
      have BW3 := Lib.hid (BW2.out.trans hact.1)
      have HACT := Lib.hid hact.2
      clear hact
      go_wp2_with fail
      go_ret
      rw [HR.out]
      exact ⟨BW3.out, HACT.out⟩
  | none =>
    rw [hfa] at hm
    obtain rfl := hm
    have HFA := Lib.hid hfa
    clear hfa
    by_cases h40 : 40 ≤ rows.length
    · have m1 : (40 : Int) ≤ (rows.length : Int) := by omega
      have HR : Hid (freshF (tK rows, rs, bz) = none) := by show _ = _; unfold freshF; simp only [HFA.out]; rw [if_pos (by rw [HLN.out]; exact h40)]
      go_wp2_with fail
      go_ret
      rw [HR.out]
      exact ⟨HBW.out, 12, by decide, by decide, rfl⟩
    · have m1 : ¬ (40 : Int) ≤ (rows.length : Int) := by omega
      by_cases h64 : 64 ≤ rs.length
      · have m3 : (64 : Int) ≤ (rs.length : Int) := by omega
        have HR : Hid (freshF (tK rows, rs, bz) = none) := by show _ = _; unfold freshF; simp only [HFA.out]; rw [if_neg (by rw [HLN.out]; exact h40)]; unfold rootF; rw [if_pos h64]
        go_wp2_with fail
        go_ret
        rw [HR.out]
        exact ⟨HBW.out, 2, by decide, by decide, rfl⟩
      · have m3 : ¬ (64 : Int) ≤ (rs.length : Int) := by omega
        have HR : Hid (freshF (tK rows, rs, bz) = rootF (tK (rows ++ [(none, 0, newT)]), rs, bz) (rows.length : Int)) := by show _ = _; unfold freshF; simp only [HFA.out, tK_app]; rw [if_neg (by rw [HLN.out]; exact h40), HLN.out]
        have D1 := Lib.hid (cells_new_at (w1) (w1.heap.size) (by simp) #[.slice none 0 0, .int .i64 0, .bool false] 47 [.slice none 0 0, .int .i64 0, .bool false] rfl)
        have D2 : Hid (∀ u ∈ ([.slice none 0 0, .int .i64 0, .bool false] : List Value), u.oneCell' = true) := by intro u hu; simp only [List.mem_cons, List.not_mem_nil, or_false] at hu; rcases hu with rfl | rfl | rfl <;> rfl
        have D3 : Hid (rows.length + 1 ≤ maxLen) := by show _ ≤ _; unfold maxLen; omega
        have D4 : Hid ((rows.length + 1) * 40 ≤ 140737488355328) := by show _ ≤ _; omega
        have D5 : Hid (base ≤ ((w1).alloc (.cells #[.slice none 0 0, .int .i64 0, .bool false] 47)).heap.size) := by show _ ≤ _; simp; omega
        have HA1 := Lib.hid (HO1.out.2.2.1.alloc (.cells #[.slice none 0 0, .int .i64 0, .bool false] 47))
        have HOA := Lib.hid (HO1.out.below ((Below.refl w1.heap.size w1).alloc (Nat.le_refl _) (.cells #[.slice none 0 0, .int .i64 0, .bool false] 47)))
        go_wp2_with (at_builtin; refine wpList_append_own _ rfl _ _ 39 rfl base 47 i0 (.agg #[.slice none 0 0, .int .i64 0, .bool false]) 3 40 Try.underlying39 hi0 hz0 hz1 hz2 rfl (by decide) _ _ _ rfl HA1.out ⟨w1.heap.size, 0, none⟩ 1 1 [.slice none 0 0, .int .i64 0, .bool false] rfl rfl D1.out D2.out D3.out D4.out D5.out ?_)
        intro v' w2 hown' hgrow _
        obtain ⟨oa3, oc3, rfl⟩ := own_formS hown'
        have hH : w2.heap[H]? = some (.cells #[.slice ta rows.length tc, .slice ra rs.length rc, .bool bz] 80 (0, 0)) := (hgrow.block H (lt_of_block HOA.out.2.1) (own_neq HOA.out.2.2.1 HOA.out.2.1 (by decide))).trans HOA.out.2.1
        have fx2 : w2.frozen? ⟨H, 0, none⟩ = false := frozen_of_row _ _ _ _ _ hH
        have cx2 := cell_of_row w2 H 0 _ _ _ hH
        simp only [List.getElem?_toArray, List.getElem?_cons_zero] at cx2
        have BW2 := Lib.hid (below_own (HBW.out.alloc hsz1 (.cells #[.slice none 0 0, .int .i64 0, .bool false] 47)) hgrow D5.out HA1.out (Nat.le_refl _))
        have HN := Lib.hid (HOA.out.grownT hgrow hown')
        have hnl : rows.length < (rows ++ [((none, 0, newT) : TRow)]).length := by simp
        obtain ⟨g, rfl, hg1, hg2, hgH, _⟩ := HN.out.thing rows.length hnl _ rfl
        have HTH := Lib.hid (HN.out.there rows.length hnl)
        have HP := Lib.hid (HN.out.put rows.length hnl false)
        rw [show (rows ++ [((none, 0, newT) : TRow)]).set rows.length (none, 0, [], 0, false) = rows ++ [(none, 0, newT)] by simp [newT]] at HP
        have BW3 := Lib.hid ((BW2.out.setCell (p := ⟨H, 0, none⟩) HO1.out.1 (.slice (some ⟨g, 0, none⟩) (rows.length + 1) oc3)).trans (below_setCells hg1 [.slice none 0 0, .int .i64 0, .bool false] (rows.length * 3) (Below.refl base _)))
        have HRT := Lib.hid (root_any base H _ oc3 (rows ++ [(none, 0, newT)]) ra rc rs bz rows.length _ HP.out (fun r hr => by
          rcases List.mem_append.1 hr with hr | hr
          · exact HD.out r hr
          · simp only [List.mem_singleton] at hr
            subst hr
            cases ra with
            | none => exact .inl rfl
            | some x => exact .inr (by simp)) hnl (by simp; omega) (by omega))
        have m5 : (rows.length : Int) < (rows.length : Int) + 1 := by omega
        have m6 : (0 : Int) ≤ (rows.length : Int) := Int.natCast_nonneg _
        clear hown' hgrow hH
        go_wp2_with (with_reducible refine wpList_store_mid rfl 47 (.tmp 55) (.tmp 54) rfl g (rows.length * 3) #[.slice none 0 0, .int .i64 0, .bool false] (by show Value.pointer _ = _; simp) rfl HTH.out HSN.out HON.out ?_)
        refine HRT.out.mono ?_
        rintro e w3 hact
        obtain ⟨c, hc20, rfl⟩ := hact.code
        have BW4 := Lib.hid (BW3.out.trans hact.1)
        have HACT := Lib.hid hact.2
        clear hact
        go_wp2_with fail
        go_ret
        rw [HR.out]
        exact ⟨BW4.out, HACT.out⟩
end Go.Proofs.Ytgoocmocdimnoaa
