/- The closures of delta, each as one contract; the functions that tell a path. -/
import Derived.Test.YtokckcmkbnhhhaaDoorDeltaClos2
namespace Go.Proofs.YtokckcmkbnhhhaaDoor
open Go.RowKit Plain
theorem OV.below {α : Type} {c : α → List Value} {n : Nat} {sl el : TypeId} {w0 w w' : World} {B : Nat} {l : List α} (h : OV c n sl el w0 B l w) (hb : Below w.heap.size w w') : OV c n sl el w0 B l w' := by
  obtain ⟨oa, oc, h1, h2, h3⟩ := h
  exact ⟨oa, oc, (hb.block B (lt_of_block h1)).trans h1, own_below' h2 hb, Below.step h3 hb⟩
theorem OV.drew {α : Type} {c : α → List Value} {n : Nat} {sl el : TypeId} {w0 w : World} {B : Nat} {l : List α} (h : OV c n sl el w0 B l w) : OV c n sl el w0 B l w.drew := by
  obtain ⟨oa, oc, h1, h2, h3⟩ := h
  exact ⟨oa, oc, h1, h2, h3.drew⟩
theorem OV.bel {α : Type} {c : α → List Value} {n : Nat} {sl el : TypeId} {w0 w : World} {B : Nat} {l : List α} (h : OV c n sl el w0 B l w) : Below w0.heap.size w0 w := by
  obtain ⟨oa, oc, h1, h2, h3⟩ := h
  exact h3
theorem SAt.tail {α : Type} {n : Nat} {c : α → List Value} {w : World} {g off : Nat} {x : α} {l : List α} (h : SAt n c w (some ⟨g, off, none⟩) (x :: l)) : SAt n c w (some ⟨g, off + n, none⟩) l := by
  intro i hi
  obtain ⟨g', off', e, hg, hr⟩ := h (i + 1) (by simpa using hi)
  cases e
  refine ⟨_, _, rfl, hg, ?_⟩
  intro j u hu
  have := hr j u hu
  rw [show off + (i + 1) * n + j = off + n + i * n + j by rw [Nat.succ_mul]; omega] at this
  exact this
theorem SAt.head {α : Type} {n : Nat} {c : α → List Value} {w : World} {a : Option Addr} {x : α} {l : List α} (h : SAt n c w a (x :: l)) : ∃ g off, a = some ⟨g, off, none⟩ ∧ g < w.heap.size ∧ w.rangeAt g off (c x) := by
  obtain ⟨g, off, e, hg, hr⟩ := h 0 (by simp)
  rw [Nat.zero_mul, Nat.add_zero] at hr
  exact ⟨g, off, e, hg, hr⟩
theorem diff1_any (p : Option It × Option It) (hp : p ≠ (none, none)) (vx vy : Value) (w0 w : World) (B : Nat) (l : List Ed) (h0 : w0.heap.size ≤ B) (hv : EV w0 B l w) (hx : PtrAt iC w0 vx p.1) (hy : PtrAt iC w0 vy p.2) (hl : l.length ≤ 1000) :
    Calls Tryd.prog 57 #[vx, vy, .pointer (some ⟨B, 0, none⟩)] w fun e w' => e = .returned (.tuple #[]) ∧ EV w0 B (l ++ (diffF Prod.fst zIt p).toList) w' := by
  match p, hp, hx, hy with
  | (none, none), hp, _, _ => exact absurd rfl hp
  | (some x, none), _, ⟨g, off, e, hg, hr⟩, hy => rw [e, hy]; exact diff1_gone x g off w0 w B l h0 hv hg hr hl
  | (none, some (y1, y2, y3, y4, y5)), _, hx, ⟨g, off, e, hg, hr⟩ => rw [e, hx]; exact diff1_new y1 y2 y3 y4 y5 g off w0 w B l h0 hv hg hr hl
  | (some (x1, x2, x3, x4, x5), some (y1, y2, y3, y4, y5)), _, ⟨gx, ox, e, hgx, hrx⟩, ⟨g, off, f, hg, hr⟩ =>
    rw [e, f]
    by_cases hne : ((x1, x2, x3, x4, x5) : It) = (y1, y2, y3, y4, y5)
    · have hd : diffF (P := ByteArray) Prod.fst zIt (some ((x1, x2, x3, x4, x5) : It), some (y1, y2, y3, y4, y5)) = none := if_pos hne
      rw [hd]
      cases hne
      rw [Option.toList_none, List.append_nil]
      exact diff1_same x1 x2 x3 x4 x5 gx ox g off w0 w B l hv hgx hg hrx hr
    · have hd : diffF (P := ByteArray) Prod.fst zIt (some ((x1, x2, x3, x4, x5) : It), some (y1, y2, y3, y4, y5)) = some (y1, false, y1, y2, y3, y4, y5) := if_neg hne
      rw [hd]
      exact diff1_turn x1 x2 x3 x4 x5 gx ox y1 y2 y3 y4 y5 g off w0 w B l h0 hv hg hr hl hgx hrx hne
theorem apply1_any (p : Option It × Option Ed) (hp : p ≠ (none, none)) (vx vy : Value) (w0 w : World) (B : Nat) (l : List It) (h0 : w0.heap.size ≤ B) (hv : IV w0 B l w) (hx : PtrAt iC w0 vx p.1) (hy : PtrAt eC w0 vy p.2) (hl : l.length ≤ 1000) :
    Calls Tryd.prog 85 #[vx, vy, .pointer (some ⟨B, 0, none⟩)] w fun e w' => e = .returned (.tuple #[]) ∧ IV w0 B (l ++ (applyF p).toList) w' := by
  match p, hp, hx, hy with
  | (none, none), hp, _, _ => exact absurd rfl hp
  | (some (y1, y2, y3, y4, y5), none), _, ⟨g, off, e, hg, hr⟩, hy => rw [e, hy]; exact apply1_keep y1 y2 y3 y4 y5 g off w0 w B l h0 hv hg hr hl
  | (x, some (p1, true, y1, y2, y3, y4, y5)), _, hx, ⟨g, off, e, hg, hr⟩ =>
    rw [e]
    have h := apply1_gone vx p1 y1 y2 y3 y4 y5 g off w0 w B l hv hg hr
    cases x <;> simpa [applyF] using h
  | (x, some (p1, false, y1, y2, y3, y4, y5)), _, hx, ⟨g, off, e, hg, hr⟩ =>
    rw [e]
    have h := apply1_put vx p1 y1 y2 y3 y4 y5 g off w0 w B l h0 hv hg hr hl
    cases x <;> simpa [applyF] using h
theorem join1_any (p : Option Ed × Option Ed) (hp : p ≠ (none, none)) (vx vy : Value) (w0 w : World) (B : Nat) (l : List Ed) (h0 : w0.heap.size ≤ B) (hv : EV w0 B l w) (hx : PtrAt eC w0 vx p.1) (hy : PtrAt eC w0 vy p.2) (hl : l.length ≤ 1000) :
    Calls Tryd.prog 65 #[vx, vy, .pointer (some ⟨B, 0, none⟩)] w fun e w' => e = .returned (.tuple #[]) ∧ EV w0 B (l ++ (joinF p).toList) w' := by
  match p, hp, hx, hy with
  | (none, none), hp, _, _ => exact absurd rfl hp
  | (some (p1, b, y1, y2, y3, y4, y5), none), _, ⟨g, off, e, hg, hr⟩, hy => rw [e, hy]; exact join1_left p1 b y1 y2 y3 y4 y5 g off w0 w B l h0 hv hg hr hl
  | (x, some (p1, b, y1, y2, y3, y4, y5)), _, hx, ⟨g, off, e, hg, hr⟩ =>
    rw [e]
    have h := join1_right vx p1 b y1 y2 y3 y4 y5 g off w0 w B l h0 hv hg hr hl
    cases x <;> simpa [joinF] using h
theorem filter_snoc {α β : Type} (f : α → Option β) (M : List α) (p : α) : M.filterMap f ++ (f p).toList = (M ++ [p]).filterMap f := by
  rw [List.filterMap_append]
  cases h : f p <;> simp [h]
set_option maxRecDepth 100000 in
theorem itemPath_any (x : It) (w : World) : Calls Tryd.prog 56 #[.agg (iC x).toArray] w fun e w' => e = .returned (.string x.1) ∧ Below w.heap.size w w' := by
  have HB : Hid (Below w.heap.size w (w.alloc (.cells (iC x).toArray 60))) := (Below.refl _ _).alloc (Nat.le_refl _) _
  have HC := heap_alloc_new w (.cells (iC x).toArray 60)
  have c0 := cell_of_row _ _ 0 _ _ _ HC
  obtain ⟨p, k, md, tm, by_⟩ := x
  unfold iC at *
  dsimp only at *
  simp only [List.getElem?_toArray, List.getElem?_cons_zero] at c0
  clear HC
  go_enter Tryd.func56, Tryd.ntmps56
  go_wp2_with fail
  go_ret
  exact ⟨rfl, HB.out⟩
set_option maxRecDepth 100000 in
theorem editPath_any (x : Ed) (w : World) : Calls Tryd.prog 64 #[.agg (eC x).toArray] w fun e w' => e = .returned (.string x.1) ∧ Below w.heap.size w w' := by
  have HB : Hid (Below w.heap.size w (w.alloc (.cells (eC x).toArray 72))) := (Below.refl _ _).alloc (Nat.le_refl _) _
  have HC := heap_alloc_new w (.cells (eC x).toArray 72)
  have c0 := cell_of_row _ _ 0 _ _ _ HC
  obtain ⟨p, b, q, k, md, tm, by_⟩ := x
  unfold eC at *
  dsimp only at *
  simp only [List.getElem?_toArray, List.getElem?_cons_zero] at c0
  clear HC
  go_enter Tryd.func64, Tryd.ntmps64
  go_wp2_with fail
  go_ret
  exact ⟨rfl, HB.out⟩
end Go.Proofs.YtokckcmkbnhhhaaDoor
