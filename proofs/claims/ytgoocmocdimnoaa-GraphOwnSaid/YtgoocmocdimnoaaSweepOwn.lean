/- A heap of the call's own: its struct, its things' row, its roots' row, its kids' rows; stores into them. -/
import Derived.Test.YtgoocmocdimnoaaSweepLive
namespace Go.Proofs.Ytgoocmocdimnoaa
open Go.RowKit Plain
set_option linter.unusedVariables false
def OH (base H : Nat) (ta : Option Addr) (tc : Nat) (rows : List TRow) (ra : Option Addr) (rc : Nat) (rs : List Int) (bz : Bool) (w : World) : Prop :=
  base ≤ H ∧ w.heap[H]? = some (.cells #[.slice ta rows.length tc, .slice ra rs.length rc, .bool bz] 80 (0, 0)) ∧
  w.ownsRow base 47 3 (.slice ta rows.length tc) rows.length (rows.flatMap tcC) ∧
  w.ownsRow base 3 1 (.slice ra rs.length rc) rs.length (rs.flatMap iC) ∧
  ∀ r ∈ rows, w.ownsRow base 3 1 (.slice r.1 r.2.2.1.length r.2.1) r.2.2.1.length (r.2.2.1.flatMap iC)
/-- the slices of the kids -/
def sl (rows : List TRow) : List (Option Addr × Nat) := rows.map fun r => (r.1, r.2.1)
theorem sl_length (rows : List TRow) : (sl rows).length = rows.length := by simp [sl]
theorem sl_len {a b : List TRow} (h : sl a = sl b) : a.length = b.length := by rw [← sl_length, h, sl_length]
theorem own_below {w w' : World} {base : Nat} {e : TypeId} {k n : Nat} {v : Value} {xs : List Value} (h : w.ownsRow base e k v n xs) (hb : Below w.heap.size w w') : w'.ownsRow base e k v n xs := by
  refine ⟨h.1, ?_⟩
  rcases h.2 with h0 | ⟨g, cap, cur, hv, hg, hh, hr⟩
  · exact .inl h0
  · exact .inr ⟨g, cap, cur, hv, hg, (hb.block g (lt_of_block hh)).trans hh, hr⟩
theorem own_same {w w' : World} {base : Nat} {e : TypeId} {k n : Nat} {v : Value} {xs : List Value} (h : w.ownsRow base e k v n xs) (hb : ∀ g cs, v.ownBlock = some g → w.heap[g]? = some (.cells cs e (0, 0)) → w'.heap[g]? = w.heap[g]?) : w'.ownsRow base e k v n xs := by
  refine ⟨h.1, ?_⟩
  rcases h.2 with h0 | ⟨g, cap, cur, rfl, hg, hh, hr⟩
  · exact .inl h0
  · exact .inr ⟨g, cap, cur, rfl, hg, (hb g cur rfl hh).trans hh, hr⟩
section
variable {base H g : Nat} {ta : Option Addr} {tc : Nat} {rows : List TRow} {ra : Option Addr} {rc : Nat} {rs : List Int} {bz : Bool} {w w' : World}
theorem OH.below (h : OH base H ta tc rows ra rc rs bz w) (hb : Below w.heap.size w w') : OH base H ta tc rows ra rc rs bz w' :=
  ⟨h.1, (hb.block H (lt_of_block h.2.1)).trans h.2.1, own_below h.2.2.1 hb, own_below h.2.2.2.1 hb, fun r hr => own_below (h.2.2.2.2 r hr) hb⟩
theorem OH.size (h : OH base H ta tc rows ra rc rs bz w) : base ≤ w.heap.size := Nat.le_of_lt (Nat.lt_of_le_of_lt h.1 (lt_of_block h.2.1))
theorem OH.sat (h : OH base H ta tc rows ra rc rs bz w) : SAt 3 tcC w ta rows := by
  obtain ⟨a, cap, e, _, _, hs⟩ := SAt.own h.2.2.1 tcC_length
  injection e with e1 _ _
  subst e1
  exact hs
theorem own_sat {base : Nat} {a : Option Addr} {c : Nat} {l : List Int} (h : w.ownsRow base 3 1 (.slice a l.length c) l.length (l.flatMap iC)) : SAt 1 iC w a l ∧ l.length ≤ 9223372036854775807 := by
  obtain ⟨a', cap, e, h1, h2, hs⟩ := SAt.own h iC_length
  injection e with e1 _ _
  subst e1
  exact ⟨hs, by omega⟩
theorem OH.tat (h : OH base H ta tc rows ra rc rs bz w) : TAt w ta rows := ⟨h.sat, fun r hr => own_sat (h.2.2.2.2 r hr)⟩
theorem OH.roots (h : OH base H ta tc rows ra rc rs bz w) : SAt 1 iC w ra rs := (own_sat h.2.2.2.1).1
theorem OH.caps (h : OH base H ta tc rows ra rc rs bz w) : rows.length ≤ tc ∧ tc ≤ 9223372036854775807 ∧ rs.length ≤ rc ∧ rc ≤ 9223372036854775807 := ⟨(own_cap h.2.2.1).1, (own_cap h.2.2.1).2, (own_cap h.2.2.2.1).1, (own_cap h.2.2.2.1).2⟩
theorem OH.h0 (h : OH base H ta tc rows ra rc rs bz w) : w.cell? ⟨H, 0, none⟩ = some (.slice ta rows.length tc) := by
  have := cell_of_row w H 0 _ _ _ h.2.1
  simpa using this
theorem OH.h1 (h : OH base H ta tc rows ra rc rs bz w) : w.cell? ⟨H, 1, none⟩ = some (.slice ra rs.length rc) := by
  have := cell_of_row w H 1 _ _ _ h.2.1
  simpa using this
theorem OH.h2 (h : OH base H ta tc rows ra rc rs bz w) : w.cell? ⟨H, 2, none⟩ = some (.bool bz) := by
  have := cell_of_row w H 2 _ _ _ h.2.1
  simpa using this
theorem OH.fz (h : OH base H ta tc rows ra rc rs bz w) (i : Nat) : w.frozen? ⟨H, i, none⟩ = false := frozen_of_row _ _ _ _ _ h.2.1
/-- one thing: where its cells lie -/
theorem OH.thing (h : OH base H ta tc rows ra rc rs bz w) (i : Nat) (hi : i < rows.length) (r : TRow) (hr : rows[i] = r) : ∃ g, ta = some ⟨g, 0, none⟩ ∧ base ≤ g ∧ g < w.heap.size ∧ g ≠ H ∧
    w.cell? ⟨g, i * 3, none⟩ = some (.slice r.1 r.2.2.1.length r.2.1) ∧ w.cell? ⟨g, i * 3 + 1, none⟩ = some (.int .i64 r.2.2.2.1) ∧ w.cell? ⟨g, i * 3 + 2, none⟩ = some (.bool r.2.2.2.2) ∧ ∀ j, w.frozen? ⟨g, j, none⟩ = false := by
  obtain ⟨g, rfl⟩ := own_is h.2.2.1 (by omega)
  obtain ⟨g', off, e, hg, c0, c1, c2⟩ := h.sat.thg i hi r hr
  injection e with e
  injection e with e1 e2 _
  subst e1 e2
  have hlt := h.2.2.1.lt g rfl
  refine ⟨g, rfl, hlt.1, hlt.2, fun e => ?_, by simpa using c0, by simpa using c1, by simpa using c2, fun j => h.2.2.1.frozenAt j⟩
  subst e
  exact own_neq h.2.2.1 h.2.1 (by decide) rfl
theorem flat_set {α : Type} {n : Nat} {c : α → List Value} (hc : ∀ y, (c y).length = n) : ∀ (l : List α) (i j : Nat) (u : Value) (x : α) (h : i < l.length), j < n → (c l[i]).set j u = c x → (l.flatMap c).set (i * n + j) u = (l.set i x).flatMap c
  | [], i, j, u, x, h, _, _ => by cases h
  | p :: l, 0, j, u, x, h, hj, he => by
    rw [List.flatMap_cons, List.set_cons_zero, List.flatMap_cons, List.set_append_left _ _ (by rw [hc]; omega), Nat.zero_mul, Nat.zero_add]
    rw [show (c p).set j u = c x from he]
  | p :: l, i + 1, j, u, x, h, hj, he => by
    rw [List.flatMap_cons, List.set_cons_succ, List.flatMap_cons, List.set_append_right _ _ (by rw [hc, Nat.succ_mul]; omega), hc]
    rw [show (i + 1) * n + j - n = i * n + j by rw [Nat.succ_mul]; omega]
    rw [flat_set hc l i j u x (by simpa using h) hj he]
theorem flat_setAll {α : Type} {n : Nat} {c : α → List Value} (hc : ∀ y, (c y).length = n) : ∀ (l : List α) (i : Nat) (x : α) (h : i < l.length), (l.flatMap c).take (i * n) ++ (c x ++ (l.flatMap c).drop (i * n + n)) = (l.set i x).flatMap c
  | [], i, x, h => by cases h
  | p :: l, 0, x, h => by
    rw [List.flatMap_cons, List.set_cons_zero, List.flatMap_cons, Nat.zero_mul, List.take_zero, List.nil_append, Nat.zero_add, List.drop_append_of_le_length (by rw [hc]; exact Nat.le_refl _), List.drop_of_length_le (by rw [hc]; exact Nat.le_refl _), List.nil_append]
  | p :: l, i + 1, x, h => by
    rw [List.flatMap_cons, List.set_cons_succ, List.flatMap_cons, ← flat_setAll hc l i x (by simpa using h), List.take_append, List.drop_append, hc, List.take_of_length_le (by rw [hc, Nat.succ_mul]; omega), List.drop_of_length_le (by rw [hc, Nat.succ_mul]; omega)]
    rw [show (i + 1) * n - n = i * n by rw [Nat.succ_mul]; omega, show (i + 1) * n + n - n = i * n + n by rw [Nat.succ_mul]; omega, List.append_assoc, List.nil_append]
/-- a store into the things' row that makes it another list -/
theorem OH.things (h : OH base H (some ⟨g, 0, none⟩) tc rows ra rc rs bz w) {vows : List TRow} (hl : vows.length = rows.length) (hg : w'.ownsRow base 47 3 (.slice (some ⟨g, 0, none⟩) vows.length tc) vows.length (vows.flatMap tcC)) (ho : ∀ k, k ≠ g → w'.heap[k]? = w.heap[k]?)
    (hk : ∀ r ∈ vows, (∃ s ∈ rows, s.1 = r.1 ∧ s.2.1 = r.2.1 ∧ s.2.2.1 = r.2.2.1) ∨ (r.1 = none ∧ r.2.1 = 0 ∧ r.2.2.1 = [])) : OH base H (some ⟨g, 0, none⟩) tc vows ra rc rs bz w' := by
  have key : ∀ {cs : Array Value} {t : TypeId}, w.heap[g]? = some (.cells cs t (0, 0)) → t = 47 := by
    intro cs t hh
    rcases h.2.2.1.2 with ⟨hv, _⟩ | ⟨g', cap, cur, hv, _, h2, _⟩
    · cases hv
    · injection hv with hv
      injection hv with hv
      injection hv with hv
      subst hv
      rw [hh] at h2
      injection h2 with h2
      injection h2
  have hrow : ∀ {b : Nat} {v : Value} {n : Nat} {xs : List Value}, w.ownsRow b 3 1 v n xs → w'.ownsRow b 3 1 v n xs := fun hr => own_same hr fun k cs _ hh => ho k fun e => by
    subst e
    exact absurd (key hh) (by decide)
  refine ⟨h.1, ?_, hg, hrow h.2.2.2.1, fun r hr => ?_⟩
  · rw [hl, ho H (fun e => by subst e; exact absurd (key h.2.1) (by decide))]
    exact h.2.1
  · rcases hk r hr with ⟨s, hs, e1, e2, e3⟩ | ⟨e1, e2, e3⟩
    · have := hrow (h.2.2.2.2 s hs)
      rwa [e1, e2, e3] at this
    · rw [e1, e2, e3]
      exact World.ownsRow_nil _ _ _ _
/-- a thing's colour is laid anew -/
theorem OH.col (h : OH base H (some ⟨g, 0, none⟩) tc rows ra rc rs bz w) (i : Nat) (hi : i < rows.length) (c : Int) : ∃ vows, OH base H (some ⟨g, 0, none⟩) tc vows ra rc rs bz (w.setCell ⟨g, i * 3 + 1, none⟩ (.int .i64 c)) ∧ sl vows = sl rows ∧ tK vows = (tK rows).set i (rows[i].2.2.1, c, rows[i].2.2.2.2) ∧ vows.length = rows.length := by
  refine ⟨rows.set i (rows[i].1, rows[i].2.1, rows[i].2.2.1, c, rows[i].2.2.2.2), h.things (by simp) ?_ (fun k hk => heap_setCell_other w ⟨g, i * 3 + 1, none⟩ k _ hk) (fun r hr => ?_), ?_, ?_, by simp⟩
  · have := h.2.2.1.stored (i * 3 + 1) (.int .i64 c)
    rw [flat_set tcC_length rows i 1 (.int .i64 c) (rows[i].1, rows[i].2.1, rows[i].2.2.1, c, rows[i].2.2.2.2) hi (by decide) rfl] at this
    rw [List.length_set]
    exact this.1
  · rcases List.mem_or_eq_of_mem_set hr with hr | rfl
    · exact .inl ⟨r, hr, rfl, rfl, rfl⟩
    · exact .inl ⟨rows[i], List.getElem_mem hi, rfl, rfl, rfl⟩
  · unfold sl
    rw [List.map_set]
    apply List.ext_getElem?
    intro k
    by_cases e : i = k
    · subst e
      rw [List.getElem?_set_self (by simpa using hi)]
      simp [hi]
    · rw [List.getElem?_set_ne e]
  · unfold tK
    rw [List.map_set]
theorem OH.busy (h : OH base H ta tc rows ra rc rs bz w) (b' : Bool) : OH base H ta tc rows ra rc rs b' (w.setCell ⟨H, 2, none⟩ (.bool b')) := by
  have hne : ∀ {e : TypeId} {k : Nat} {v : Value} {n : Nat} {xs : List Value}, w.ownsRow base e k v n xs → e ≠ 80 → (w.setCell ⟨H, 2, none⟩ (.bool b')).ownsRow base e k v n xs := fun hr ht => own_store hr h.2.1 ht 2 _
  refine ⟨h.1, ?_, hne h.2.2.1 (by decide), hne h.2.2.2.1 (by decide), fun r hr => hne (h.2.2.2.2 r hr) (by decide)⟩
  have := heap_setCell_same w H 2 _ _ (.bool b') h.2.1
  simpa using this
end
end Go.Proofs.Ytgoocmocdimnoaa
