/- The walks of sweep's root; rows of the call's own that grow or are cut. -/
import Derived.Test.YtgoocmocdimnoaaSweepShade
import Derived.Test.YtgoocmocdimnoaaShelf
import Derived.Lib.OwnBridge
namespace Go.Proofs.Ytgoocmocdimnoaa
open Go.RowKit Plain
set_option linter.unusedVariables false
theorem own_one {w : World} {base : Nat} {e : TypeId} {k n c : Nat} {a : Option Addr} {xs : List Value} (h : w.ownsRow base e k (.slice a n c) n xs) : a = none ∨ ∃ g, a = some ⟨g, 0, none⟩ ∧ base ≤ g ∧ g < w.heap.size := by
  cases a with
  | none => exact .inl rfl
  | some ad =>
    right
    rcases h.2 with ⟨hv, _⟩ | ⟨g, cap, cur, hv, hb, hh, _⟩
    · cases hv
    · injection hv with hv
      injection hv with hv
      exact ⟨g, by rw [hv], hb, lt_of_block hh⟩
theorem own_blocks {w : World} {base base' : Nat} {e e' : TypeId} {k k' n n' c c' : Nat} {a a' : Option Addr} {xs xs' : List Value} (h : w.ownsRow base e k (.slice a n c) n xs) (h' : w.ownsRow base' e' k' (.slice a' n' c') n' xs') (hne : a = none ∨ a ≠ a') : (Value.slice a n c).ownBlock = none ∨ (Value.slice a n c).ownBlock ≠ (Value.slice a' n' c').ownBlock := by
  rcases own_one h with rfl | ⟨g, rfl, _⟩
  · exact .inl rfl
  · rcases own_one h' with rfl | ⟨g', rfl, _⟩
    · exact .inr (by simp [Value.ownBlock])
    · right
      simp only [Value.ownBlock]
      intro e
      injection e with e
      subst e
      rcases hne with h | h
      · cases h
      · exact h rfl
theorem below_trans {base : Nat} {a b c : World} (h : Below base a b) (k : Below base b c) : Below base a c := ⟨k.os.trans h.os, k.tape.trans h.tape, k.output.trans h.output, Nat.le_trans h.size k.size, fun i hi => (k.block i hi).trans (h.block i hi)⟩
section
variable {base H g : Nat} {ta : Option Addr} {tc : Nat} {rows : List TRow} {ra : Option Addr} {rc : Nat} {rs : List Int} {bz : Bool} {w w' : World}
/-- the heap's memory behind a growing of the row of its roots -/
theorem OH.grownR (h : OH base H ta tc rows ra rc rs bz w) (hd : ∀ r ∈ rows, ra = none ∨ r.1 ≠ ra) (hg : w.grownBy w' (Value.slice ra rs.length rc).ownBlock) {ra' : Option Addr} {rc' : Nat} {rs' : List Int} (hn : w'.ownsRow base 3 1 (.slice ra' rs'.length rc') rs'.length (rs'.flatMap iC)) :
    OH base H ta tc rows ra' rc' rs' bz (w'.setCell ⟨H, 1, none⟩ (.slice ra' rs'.length rc')) := by
  have hH : w'.heap[H]? = some (.cells #[.slice ta rows.length tc, .slice ra rs.length rc, .bool bz] 80 (0, 0)) := (hg.block H (lt_of_block h.2.1) (own_neq h.2.2.2.1 h.2.1 (by decide))).trans h.2.1
  have hne : ∀ {e : TypeId} {k : Nat} {v : Value} {n : Nat} {xs : List Value}, w'.ownsRow base e k v n xs → e ≠ 80 → (w'.setCell ⟨H, 1, none⟩ (.slice ra' rs'.length rc')).ownsRow base e k v n xs := fun hr ht => own_store hr hH ht 1 _
  have hT : w'.ownsRow base 47 3 (.slice ta rows.length tc) rows.length (rows.flatMap tcC) := by
    refine h.2.2.1.kept hg ?_
    rcases own_one h.2.2.1 with e | ⟨g1, e, _⟩
    · rw [e]; exact .inl rfl
    · right
      intro hq
      rcases own_one h.2.2.2.1 with e' | ⟨g2, e', _⟩
      · rw [e, e'] at hq; cases hq
      · rw [e, e'] at hq
        simp only [Value.ownBlock] at hq
        injection hq with hq
        subst hq
        rw [e] at h
        have h3 := h.2.2.1
        rcases h3.2 with ⟨hv, _⟩ | ⟨g', cap, cur, hv, _, hh, _⟩
        · cases hv
        · injection hv with hv
          injection hv with hv
          injection hv with hv
          subst hv
          exact own_neq h.2.2.2.1 hh (by decide) (by rw [e']; rfl)
  refine ⟨h.1, ?_, hne hT (by decide), hne hn (by decide), fun r hr => hne ((h.2.2.2.2 r hr).kept hg ?_) (by decide)⟩
  · have := heap_setCell_same w' H 1 _ _ (.slice ra' rs'.length rc') hH
    simpa using this
  · rcases hd r hr with e | e
    · rcases own_one (h.2.2.2.2 r hr) with e' | ⟨g1, e', _⟩
      · rw [e']; exact .inl rfl
      · right; rw [e, e']; simp [Value.ownBlock]
    · exact own_blocks (h.2.2.2.2 r hr) h.2.2.2.1 (.inr e)
end
/-- what an act leaves -/
def ActEnd (base H : Nat) (res : Option Hp) (w0 : World) (e : Ending) (w : World) : Prop := Below base w0 w ∧ match res with
  | none => ∃ c : Nat, c ≠ 0 ∧ c ≤ 20 ∧ e = .returned (.int .i64 (c : Int))
  | some g => e = .returned (.int .i64 0) ∧ ∃ ta tc rows ra rc rs bz, OH base H ta tc rows ra rc rs bz w ∧ g = (tK rows, rs, bz)
theorem info_intS : (Try.prog.info? 3).map (fun i => (i.zero, i.size, i.bytes)) = some (some (.int .i64 0), 1, 8) := by kernel_rfl
set_option maxRecDepth 100000 in
set_option maxHeartbeats 1000000 in
theorem root_any (base H : Nat) (ta : Option Addr) (tc : Nat) (rows : List TRow) (ra : Option Addr) (rc : Nat) (rs : List Int) (bz : Bool) (k : Nat) (w : World) (h : OH base H ta tc rows ra rc rs bz w) (hd : ∀ r ∈ rows, ra = none ∨ r.1 ≠ ra) (hk : k < rows.length) (hr : rows.length ≤ 1000) (hb64 : rs.length ≤ 1000) :
    Calls Try.prog 60 #[.pointer (some ⟨H, 0, none⟩), .int .i64 (k : Int)] w (ActEnd base H (rootF (tK rows, rs, bz) (k : Int)) w) := by
  obtain ⟨i0, hi0, hz0, hz1, hz2⟩ := info_parts info_intS
  have HO := Lib.hid h
  have HD := Lib.hid hd
  have x1 := h.h1
  have fx := h.fz 1
  by_cases h64 : 64 ≤ rs.length
  · have m1 : (64 : Int) ≤ (rs.length : Int) := by omega
    have HR : Hid (rootF (tK rows, rs, bz) (k : Int) = none) := by show _ = _; unfold rootF; rw [if_pos h64]
    clear h hd
    go_enter Try.func60, Try.ntmps60
    go_wp2_with fail
    go_ret
    rw [HR.out]
    exact ⟨Below.refl _ _, 2, by decide, by decide, rfl⟩
  · have m1 : ¬ (64 : Int) ≤ (rs.length : Int) := by omega
    have HR : Hid (rootF (tK rows, rs, bz) (k : Int) = some (shade bz (tK rows) (k : Int), rs ++ [(k : Int)], bz)) := by show _ = _; unfold rootF; rw [if_neg h64]
    have hsz := h.size
    have D1 := Lib.hid (cells_new_at (w) (w.heap.size) (by simp) #[.int .i64 (k : Int)] 3 [.int .i64 (k : Int)] rfl)
    have D2 : Hid (∀ u ∈ ([.int .i64 (k : Int)] : List Value), u.oneCell' = true) := by intro u hu; simp only [List.mem_cons, List.not_mem_nil, or_false] at hu; rcases hu with rfl <;> rfl
    have D3 : Hid (rs.length + 1 ≤ maxLen) := by show _ ≤ _; unfold maxLen; omega
    have D4 : Hid ((rs.length + 1) * 8 ≤ 140737488355328) := by show _ ≤ _; omega
    have D5 : Hid (base ≤ ((w).alloc (.cells #[.int .i64 (k : Int)] 3)).heap.size) := by show _ ≤ _; simp; omega
    have HA1 := Lib.hid (h.2.2.2.1.alloc (.cells #[.int .i64 (k : Int)] 3))
    have HOA := Lib.hid (h.below ((Below.refl w.heap.size w).alloc (Nat.le_refl _) (.cells #[.int .i64 (k : Int)] 3)))
    have HHL : Hid (H < w.heap.size) := lt_of_block h.2.1
    clear h hd
    go_enter Try.func60, Try.ntmps60
    go_wp2_with (at_builtin; refine wpList_append_own _ rfl _ _ 23 rfl base 3 i0 (.int .i64 0) 1 8 Try.underlying23 hi0 hz0 hz1 hz2 rfl (by decide) _ _ _ rfl HA1.out ⟨w.heap.size, 0, none⟩ 1 1 [.int .i64 (k : Int)] rfl rfl D1.out D2.out D3.out D4.out D5.out ?_)
    intro v' w2 hown' hgrow _
    obtain ⟨oa3, oc3, rfl⟩ := own_formS hown'
    have HFH : Hid (w2.frozen? ⟨H, 1, none⟩ = false) := by
      have hH : w2.heap[H]? = some (.cells #[.slice ta rows.length tc, .slice ra rs.length rc, .bool bz] 80 (0, 0)) := (hgrow.block H (lt_of_block HOA.out.2.1) (own_neq HOA.out.2.2.2.1 HOA.out.2.1 (by decide))).trans HOA.out.2.1
      exact frozen_of_row _ _ _ _ _ hH
    have HC1 : Hid (w2.cell? ⟨H, 1, none⟩ = some (.slice ra rs.length rc)) := by
      have hH : w2.heap[H]? = some (.cells #[.slice ta rows.length tc, .slice ra rs.length rc, .bool bz] 80 (0, 0)) := (hgrow.block H (lt_of_block HOA.out.2.1) (own_neq HOA.out.2.2.2.1 HOA.out.2.1 (by decide))).trans HOA.out.2.1
      have := cell_of_row w2 H 1 _ _ _ hH
      show _ = _
      simpa using this
    have BW := Lib.hid (below_own ((Below.refl base w).alloc hsz (.cells #[.int .i64 (k : Int)] 3)) hgrow D5.out HA1.out (Nat.le_refl _))
    have HN : Hid (OH base H ta tc rows oa3 oc3 (rs ++ [(k : Int)]) bz (w2.setCell ⟨H, 1, none⟩ (.slice oa3 (rs.length + 1) oc3))) := by
      have hw : w2.ownsRow base 3 1 (.slice oa3 (rs ++ [(k : Int)]).length oc3) (rs ++ [(k : Int)]).length ((rs ++ [(k : Int)]).flatMap iC) := by
        rw [List.length_append, List.flatMap_append]
        exact hown'
      have := HOA.out.grownR HD.out hgrow hw
      rwa [show (rs ++ [(k : Int)]).length = rs.length + 1 by simp] at this
    have HS := Lib.hid (shade_any base H ta tc rows oa3 oc3 (rs ++ [(k : Int)]) bz k _ HN.out hk hr)
    have BW2 := Lib.hid (BW.out.setCell (p := ⟨H, 1, none⟩) HO.out.1 (.slice oa3 (rs.length + 1) oc3))
    have fx2 := HFH.out
    have cx2 := HC1.out
    clear hown' hgrow
    go_wp2_with fail
    refine HS.out.mono ?_
    rintro e w3 ⟨rfl, ⟨vows, hv, hs, ht⟩, hb⟩
    have HV := Lib.hid hv
    have HT := Lib.hid ht
    have BW3 := Lib.hid (below_trans BW2.out hb)
    clear hv ht hs hb
    go_wp2_with fail
    go_ret
    rw [HR.out]
    exact ⟨BW3.out, rfl, _, _, _, _, _, _, _, HV.out, by rw [HT.out]⟩
/-- a row of ints of the call's own that is cut by slices.Delete -/
def DelEnd (base g : Nat) (cap : Nat) (l : List Int) (w0 : World) (e : Ending) (w : World) : Prop := e = .returned (.slice (some ⟨g, 0, none⟩) l.length cap) ∧ w.ownsRow base 3 1 (.slice (some ⟨g, 0, none⟩) l.length cap) l.length (l.flatMap iC) ∧ w0.grownBy w (some g)
theorem grown_putRow {α : Type} [Inhabited α] (enc : α → Value) (w : World) (q g o : Nat) (d : Array α) : w.grownBy (Sort.putRow enc (Sort.ahead w q) g o d) (some g) := by
  refine ⟨rfl, rfl, rfl, ?_, fun k hk hne => ?_⟩
  · simp [Sort.putRow, Sort.mapBlock, Sort.ahead]
  · have : g ≠ k := fun e => hne (by rw [e])
    simp [Sort.putRow, Sort.mapBlock, Sort.ahead, Array.getElem?_modify, this]
theorem delete_any (base g cap : Nat) (l : List Int) (i : Nat) (w : World) (h : w.ownsRow base 3 1 (.slice (some ⟨g, 0, none⟩) l.length cap) l.length (l.flatMap iC)) (hi : i < l.length) :
    Calls Try.prog 59 #[.slice (some ⟨g, 0, none⟩) l.length cap, .int .i64 (i : Int), .int .i64 ((i : Int) + 1)] w (DelEnd base g cap (l.eraseIdx i) w) := by
  have hcap := own_cap h
  rw [iC_flat] at h
  obtain ⟨g', cap', e, _, _, _, _, _, hH⟩ := Lib.holds_of_ownsRow h (by simp)
  injection e with e1 _ e3
  injection e1 with e1
  injection e1 with e1
  subst e1 e3
  have hd := Try.slices_Delete_int g 0 cap i (i + 1) l w hH hcap.1 hcap.2 (by omega) (by omega)
  refine hd.mono ?_
  rintro e w' ⟨rfl, q, rfl⟩
  have hle : (l.eraseIdx i).length = l.length - 1 := List.length_eraseIdx_of_lt hi
  have hl2 : (l.take i ++ l.drop (i + 1) ++ List.replicate (i + 1 - i) 0).length = l.length := by simp; omega
  have ho := Lib.ownsRow_putRow (q := q) (k := l.length - 1) h hl2 (by omega)
  refine ⟨by rw [hle]; congr 2; omega, ?_, grown_putRow _ _ _ _ _ _⟩
  rw [hle, iC_flat]
  have e4 : (l.take i ++ l.drop (i + 1) ++ List.replicate (i + 1 - i) 0).take (l.length - 1) = l.eraseIdx i := by
    rw [List.eraseIdx_eq_take_drop_succ, List.take_append_of_le_length (by simp; omega), List.take_of_length_le (by simp; omega)]
  rw [e4] at ho
  exact ho
end Go.Proofs.Ytgoocmocdimnoaa
