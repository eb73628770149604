/- The way of packets: what stands in memory. -/
import Derived.Test.YtinjnclpiiohcaaLineTakes
import Derived.Test.YtinjnclpiiohcaaLinkWay
import Derived.Test.YtinjnclpiiohcaaAppendNew
namespace Go.Proofs.Ytinjnclpiiohcaa
open Go.RowKit Plain
set_option linter.unusedVariables false
set_option linter.unusedSimpArgs false
/-- a list that is read, apart from the way's own row and from the packets on their way -/
def LAt {α : Type} (n : Nat) (c : α → List Value) (wb : Nat) (na : Option Addr) (u : World) (a : Option Addr) (l : List α) : Prop :=
  SAt n c u a l ∧ (l ≠ [] → ∀ ad, a = some ad → ad.block ≠ wb ∧ ∀ nd, na = some nd → ad.block ≠ nd.block)
theorem LAt.below {α : Type} {n wb : Nat} {c : α → List Value} {na a : Option Addr} {u u' : World} {l : List α} (h : LAt n c wb na u a l) (hb : Below u.heap.size u u') : LAt n c wb na u' a l := ⟨h.1.below hb, h.2⟩
theorem LAt.row {α : Type} {n wb : Nat} {c : α → List Value} {na a : Option Addr} {u u' : World} {l : List α} (h : LAt n c wb na u a l) (hs : u.heap.size ≤ u'.heap.size) (hb : ∀ k, k ≠ wb → u'.heap[k]? = u.heap[k]?) : LAt n c wb na u' a l := by
  refine ⟨fun i hi => ?_, h.2⟩
  obtain ⟨b, off, e, hbl, hr⟩ := h.1 i hi
  refine ⟨b, off, e, Nat.lt_of_lt_of_le hbl hs, fun j u hu => ?_⟩
  have hne : l ≠ [] := fun e => by rw [e] at hi; simp at hi
  rw [World.cell?_of_block (a := ⟨b, off + i * n + j, none⟩) (hb b (h.2 hne _ e).1)]
  exact hr j u hu
def NAnew (u : World) (na na' : Option Addr) : Prop := ∀ nd, na' = some nd → (∃ n0, na = some n0 ∧ n0.block = nd.block) ∨ u.heap.size ≤ nd.block
theorem na_new {u : World} {na na' : Option Addr} {m k m' k' : Nat} (h : Value.ownBlock (.slice na' m' k') = Value.ownBlock (.slice na m k) ∨ ∃ x, Value.ownBlock (.slice na' m' k') = some x ∧ u.heap.size ≤ x) : NAnew u na na' := by
  rintro nd rfl
  simp only [Value.ownBlock] at h
  rcases h with h | ⟨x, h, hx⟩
  · cases na with
    | none => simp at h
    | some n0 => exact .inl ⟨n0, rfl, by simpa using h.symm⟩
  · injection h with h
    exact .inr (by omega)
theorem LAt.grow {α : Type} {n wb m k : Nat} {c : α → List Value} {na na' a : Option Addr} {u u' : World} {l : List α} (h : LAt n c wb na u a l) (hg : u.grownBy u' (Value.ownBlock (.slice na m k))) (hn : NAnew u na na') : LAt n c wb na' u' a l := by
  refine ⟨fun i hi => ?_, fun hne ad e => ⟨(h.2 hne ad e).1, fun nd e2 e3 => ?_⟩⟩
  · obtain ⟨b, off, e, hbl, hr⟩ := h.1 i hi
    refine ⟨b, off, e, Nat.lt_of_lt_of_le hbl hg.size, fun j u hu => ?_⟩
    have hne : l ≠ [] := fun e => by rw [e] at hi; simp at hi
    rw [World.cell?_of_block (a := ⟨b, off + i * n + j, none⟩) (hg.block b hbl fun e2 => ?_)]
    · exact hr j u hu
    · cases na with
      | none => simp [Value.ownBlock] at e2
      | some nd => exact (h.2 hne _ e).2 nd rfl (by simpa [Value.ownBlock] using e2)
  · rcases hn nd e2 with ⟨n0, e4, e5⟩ | h3
    · exact (h.2 hne ad e).2 n0 e4 (by omega)
    · obtain ⟨b, off, e6, hbl, _⟩ := h.1 0 (List.length_pos_iff.2 hne)
      rw [e] at e6
      injection e6 with e6
      subst e6
      simp only at e3
      omega
/-- what was made anew is apart -/
theorem LAt.fresh {α : Type} {n wb B : Nat} {c : α → List Value} {na a : Option Addr} {u : World} {l : List α} (h : SAt n c u a l) (hb : NB B a) (hwb : wb < B) (hna : ∀ nd, na = some nd → nd.block < B) : LAt n c wb na u a l :=
  ⟨h, fun _ ad e => ⟨by have := hb ad e; omega, fun nd e2 => by have := hb ad e; have := hna nd e2; omega⟩⟩
abbrev wayR (T : List ByteArray) (s : LSt ByteArray) (ta : Option Addr) (tc : Nat) (ha : Option Addr) (hc : Nat) (ga : Option Addr) (gc : Nat) (la : Option Addr) (lc : Nat) (na : Option Addr) (nc : Nat) : Array Value :=
  #[.slice ta T.length tc, .slice ha s.had.length hc, .int .i64 (s.b : Int), .slice ga s.got.length gc, .slice la s.held.length lc, .slice na s.net.length nc, .bool false]
/-- the way: its row, its lists -/
structure WSt (B0 wb : Nat) (T : List ByteArray) (s : LSt ByteArray) (ta : Option Addr) (tc : Nat) (ha : Option Addr) (hc : Nat) (ga : Option Addr) (gc : Nat) (la : Option Addr) (lc : Nat) (na : Option Addr) (nc : Nat) (u : World) : Prop where
  row : u.heap[wb]? = some (.cells (wayR T s ta tc ha hc ga gc la lc na nc) 57 (0, 0))
  t : LAt 1 stC wb na u ta T
  h : LAt 1 boC wb na u ha s.had
  g : LAt 1 stC wb na u ga s.got
  l : LAt 3 pkC wb na u la s.held
  own : u.ownsRow B0 30 3 (.slice na s.net.length nc) s.net.length (s.net.flatMap pkC)
  base : B0 ≤ wb
section
variable {B0 wb tc hc gc lc nc : Nat} {T : List ByteArray} {s : LSt ByteArray} {ta ha ga la na : Option Addr} {u u' : World}
theorem WSt.below (h : WSt B0 wb T s ta tc ha hc ga gc la lc na nc u) (hb : Below u.heap.size u u') : WSt B0 wb T s ta tc ha hc ga gc la lc na nc u' :=
  ⟨(hb.block _ (lt_of_block h.row)).trans h.row, h.t.below hb, h.h.below hb, h.g.below hb, h.l.below hb, own_belowK h.own hb, h.base⟩
theorem WSt.na_lt (h : WSt B0 wb T s ta tc ha hc ga gc la lc na nc u) : ∀ nd, na = some nd → nd.block < u.heap.size := fun nd e => by
  have := h.own.lt nd.block (by rw [e]; rfl)
  omega
/-- its lists kept where its row alone was stored over -/
theorem WSt.kept (h : WSt B0 wb T s ta tc ha hc ga gc la lc na nc u) (hs : u.heap.size ≤ u'.heap.size) (hb : ∀ k, k ≠ wb → u'.heap[k]? = u.heap[k]?) : LAt 1 stC wb na u' ta T ∧ LAt 1 boC wb na u' ha s.had ∧ LAt 1 stC wb na u' ga s.got ∧ LAt 3 pkC wb na u' la s.held ∧ u'.ownsRow B0 30 3 (.slice na s.net.length nc) s.net.length (s.net.flatMap pkC) :=
  ⟨h.t.row hs hb, h.h.row hs hb, h.g.row hs hb, h.l.row hs hb, own_keep h.own fun g cs hg _ => hb g (type_ne hg h.row (by decide))⟩
/-- the sender stored over -/
theorem WSt.sender (h : WSt B0 wb T s ta tc ha hc ga gc la lc na nc u) {had : List Bool} {b : Nat} {ta' ha' : Option Addr} {tc' hc' : Nat} (h1 : LAt 1 stC wb na u ta' T) (h2 : LAt 1 boC wb na u ha' had) :
    WSt B0 wb T ⟨had, b, s.got, s.held, s.net⟩ ta' tc' ha' hc' ga gc la lc na nc (u.setCells wb 0 [.slice ta' T.length tc', .slice ha' had.length hc', .int .i64 (b : Int)]) := by
  have hs : u.heap.size ≤ (u.setCells wb 0 [.slice ta' T.length tc', .slice ha' had.length hc', .int .i64 (b : Int)]).heap.size := (below_setCells (Nat.zero_le wb) _ 0 (Below.refl 0 u)).size
  have hb : ∀ k, k ≠ wb → (u.setCells wb 0 [.slice ta' T.length tc', .slice ha' had.length hc', .int .i64 (b : Int)]).heap[k]? = u.heap[k]? := fun k hk => heap_setCells_other wb k hk _ _ _
  obtain ⟨k1, k2, k3, k4, k5⟩ := h.kept hs hb
  refine ⟨?_, h1.row hs hb, h2.row hs hb, k3, k4, k5, h.base⟩
  have e1 := heap_setCell_same u wb 0 _ _ (.slice ta' T.length tc') h.row
  have e2 := heap_setCell_same _ wb 1 _ _ (.slice ha' had.length hc') e1
  exact heap_setCell_same _ wb 2 _ _ (.int .i64 (b : Int)) e2
/-- the receiver stored over -/
theorem WSt.receiver (h : WSt B0 wb T s ta tc ha hc ga gc la lc na nc u) {got : List ByteArray} {held : List PkT} {ga' la' : Option Addr} {gc' lc' : Nat} (h1 : LAt 1 stC wb na u ga' got) (h2 : LAt 3 pkC wb na u la' held) :
    WSt B0 wb T ⟨s.had, s.b, got, held, s.net⟩ ta tc ha hc ga' gc' la' lc' na nc (u.setCells wb 3 [.slice ga' got.length gc', .slice la' held.length lc']) := by
  have hs : u.heap.size ≤ (u.setCells wb 3 [.slice ga' got.length gc', .slice la' held.length lc']).heap.size := (below_setCells (Nat.zero_le wb) _ 3 (Below.refl 0 u)).size
  have hb : ∀ k, k ≠ wb → (u.setCells wb 3 [.slice ga' got.length gc', .slice la' held.length lc']).heap[k]? = u.heap[k]? := fun k hk => heap_setCells_other wb k hk _ _ _
  obtain ⟨k1, k2, k3, k4, k5⟩ := h.kept hs hb
  refine ⟨?_, k1, k2, h1.row hs hb, h2.row hs hb, k5, h.base⟩
  have e1 := heap_setCell_same u wb 3 _ _ (.slice ga' got.length gc') h.row
  exact heap_setCell_same _ wb 4 _ _ (.slice la' held.length lc') e1
/-- the flag stored over with what it was -/
theorem WSt.flag (h : WSt B0 wb T s ta tc ha hc ga gc la lc na nc u) : WSt B0 wb T s ta tc ha hc ga gc la lc na nc (u.setCell ⟨wb, 6, none⟩ (.bool false)) := by
  have hb : ∀ k, k ≠ wb → (u.setCell ⟨wb, 6, none⟩ (.bool false)).heap[k]? = u.heap[k]? := fun k hk => heap_setCell_other u ⟨wb, 6, none⟩ k _ hk
  obtain ⟨k1, k2, k3, k4, k5⟩ := h.kept (by simp [World.setCell]) hb
  exact ⟨heap_setCell_same u wb 6 _ _ (.bool false) h.row, k1, k2, k3, k4, k5, h.base⟩
/-- the packets on their way stored over -/
theorem WSt.net (h : WSt B0 wb T s ta tc ha hc ga gc la lc na nc u) {net : List PkT} {na' : Option Addr} {nc' : Nat} (hg : u.grownBy u' (Value.ownBlock (.slice na s.net.length nc))) (hn : NAnew u na na') (ho : u'.ownsRow B0 30 3 (.slice na' net.length nc') net.length (net.flatMap pkC)) :
    WSt B0 wb T ⟨s.had, s.b, s.got, s.held, net⟩ ta tc ha hc ga gc la lc na' nc' (u'.setCell ⟨wb, 5, none⟩ (.slice na' net.length nc')) := by
  have hr : u'.heap[wb]? = _ := (hg.block wb (lt_of_block h.row) (own_neqK h.own h.row (by decide))).trans h.row
  have hb : ∀ k, k ≠ wb → (u'.setCell ⟨wb, 5, none⟩ (.slice na' net.length nc')).heap[k]? = u'.heap[k]? := fun k hk => heap_setCell_other u' ⟨wb, 5, none⟩ k _ hk
  have hs : u'.heap.size ≤ (u'.setCell ⟨wb, 5, none⟩ (.slice na' net.length nc')).heap.size := by simp [World.setCell]
  exact ⟨heap_setCell_same u' wb 5 _ _ (.slice na' net.length nc') hr, (h.t.grow hg hn).row hs hb, (h.h.grow hg hn).row hs hb, (h.g.grow hg hn).row hs hb, (h.l.grow hg hn).row hs hb, own_keep ho fun g cs hg _ => hb g (type_ne hg hr (by decide)), h.base⟩
end
theorem wp_call_run {P : Program} {o : Oper} {a : Act} {w : World} {K : Act → World → Prop} {Q : Exit → Act → World → Prop} {f : FuncId} {args : Array Value} {post : Ending → World → Prop} (he : (execOp a.eval o).run P w = .ok (.enter f args) w) (hc : Calls P f args w post)
    (h : ∀ e w', post e w' → ∃ v, e = .returned v ∧ K (a.put o.dst v) w') : o.wp P a w K Q := by
  unfold Oper.wp
  rw [he]
  refine Calls.mono hc ?_
  rintro e w' hp
  obtain ⟨v, rfl, hk⟩ := h e w' hp
  exact hk
end Go.Proofs.Ytinjnclpiiohcaa
