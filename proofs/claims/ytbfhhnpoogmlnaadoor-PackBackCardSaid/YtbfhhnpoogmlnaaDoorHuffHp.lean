/- The heap of trees in memory. -/
import Derived.Test.YtbfhhnpoogmlnaaDoorHuffCmp
namespace Go.Proofs.YtbfhhnpoogmlnaaDoor
open Go.RowKit Plain
set_option linter.unusedVariables false
set_option linter.unusedSimpArgs false
theorem run_store_one {P : Program} (w : World) (b o : Nat) (ty : TypeId) (v : Value) (hv : v.cells = #[v]) (hc : (w.cell? ⟨b, o, none⟩).isSome = true) (hf : w.frozen? ⟨b, o, none⟩ = false) (hi : (P.info? ty).map (·.size) = some 1) (h1 : v.oneCell' = true) :
    (storeVar ty ⟨b, o, none⟩ v).run P w = .ok () (w.setCell ⟨b, o, none⟩ v) := by
  have := run_storeCells_cells (P := P) b o [v] 0 w (fun j hj => by obtain rfl : j = 0 := by simpa using hj
                                                                    exact hc) (fun j hj => by obtain rfl : j = 0 := by simpa using hj
                                                                                              exact hf) (fun u hu => by rw [List.mem_singleton.1 hu]; exact h1)
  cases hq : P.info? ty with
  | none => simp [hq] at hi
  | some i =>
    have hs : i.size = 1 := by simpa [hq] using hi
    simp only [Nat.add_zero] at this
    simp [storeVar, sizeOf, typeInfo, hq, hv, hs, this, World.setCells]
theorem wp_store_one {P : Program} {op : Oper} {a : Act} {w : World} {K : Act → World → Prop} {Q : Exit → Act → World → Prop} (ty : TypeId) (x y : Operand) (ho : op.op = .store ty x y) (b o : Nat) (v : Value)
    (hx : a.eval x = .pointer (some ⟨b, o, none⟩)) (hy : a.eval y = v) (hv : v.cells = #[v]) (hc : (w.cell? ⟨b, o, none⟩).isSome = true) (hf : w.frozen? ⟨b, o, none⟩ = false) (hi : (P.info? ty).map (·.size) = some 1) (h1 : v.oneCell' = true)
    (h : K (a.put op.dst undef) (w.setCell ⟨b, o, none⟩ v)) : op.wp P a w K Q := by
  unfold Oper.wp execOp
  simp only [ho, hx, hy, Instr.storeAt, Instr.sureAddr, Sem.run_bind, Sem.run_pure, Result.andThen_ok, run_store_one w b o ty v hv hc hf hi h1]
  exact h
abbrev hpV (A : Option Addr) (n cap : Nat) : Array Value := #[.slice A n cap, .func (.func 106) #[] #[]]
structure HpS (B0 hb : Nat) (A : Option Addr) (cap : Nat) (L : List TV) (u : World) : Prop where
  row : u.heap[hb]? = some (.cells (hpV A L.length cap) 184 (0, 0))
  own : u.ownsRow B0 179 3 (.slice A L.length cap) L.length (L.flatMap hC)
  base : B0 ≤ hb
/-- all rows are kept but those of the heap -/
def Kp (u u' : World) : Prop := u.heap.size ≤ u'.heap.size ∧ ∀ (k : Nat) (cs : Array Value) (t : TypeId) (fr : Nat × Nat), u.heap[k]? = some (Obj.cells cs t fr) → t ≠ 179 → t ≠ 184 → u'.heap[k]? = u.heap[k]?
theorem Kp.refl (u : World) : Kp u u := ⟨Nat.le_refl _, fun _ _ _ _ _ _ _ => rfl⟩
theorem Kp.trans {a b c : World} (h : Kp a b) (g : Kp b c) : Kp a c := ⟨Nat.le_trans h.1 g.1, fun k cs t fr e h1 h2 => by
  have e1 := h.2 k cs t fr e h1 h2
  exact (g.2 k cs t fr (e1.trans e) h1 h2).trans e1⟩
theorem Kp.below {u u' : World} (h : Below u.heap.size u u') : Kp u u' := ⟨h.size, fun k cs t fr e _ _ => h.block k (lt_of_block e)⟩
theorem Kp.set {u : World} {b : Nat} {cs : Array Value} {t : TypeId} {fr : Nat × Nat} (hb : u.heap[b]? = some (.cells cs t fr)) (ht : t = 179 ∨ t = 184) (o : Nat) (vs : List Value) : Kp u (u.setCells b o vs) := by
  refine ⟨(below_setCells (Nat.zero_le b) vs o (Below.refl 0 u)).size, fun k cs' t' fr' e h1 h2 => heap_setCells_other b k (fun hk => ?_) vs o u⟩
  subst hk
  rw [hb] at e
  injection e with e
  injection e with _ e _
  subst e
  rcases ht with h | h
  · exact h1 h
  · exact h2 h
theorem Kp.grown {u u' : World} {B0 n : Nat} {v : Value} {xs : List Value} (ho : u.ownsRow B0 179 3 v n xs) (hg : u.grownBy u' v.ownBlock) : Kp u u' := by
  refine ⟨hg.size, fun k cs t fr e h1 h2 => hg.block k (lt_of_block e) fun hk => ?_⟩
  rcases ho.2 with ⟨rfl, _⟩ | ⟨g, cap, cur, rfl, _, hh, _⟩
  · simp [Value.ownBlock] at hk
  · have hkg : k = g := by simpa [Value.ownBlock] using hk
    subst hkg
    rw [hh] at e
    injection e with e
    injection e with _ e _
    exact h1 e.symm
section
variable {B0 hb cap : Nat} {A : Option Addr} {L : List TV} {u u' : World}
theorem HpS.below (h : HpS B0 hb A cap L u) (hB : Below u.heap.size u u') : HpS B0 hb A cap L u' := ⟨(hB.block _ (lt_of_block h.row)).trans h.row, own_belowK h.own hB, h.base⟩
theorem HpS.addr (h : HpS B0 hb A cap L u) (hn : 0 < L.length) : ∃ g, A = some ⟨g, 0, none⟩ ∧ B0 ≤ g ∧ g ≠ hb ∧ ∃ cur, u.heap[g]? = some (.cells cur 179 (0, 0)) ∧ L.length * 3 ≤ cur.size := by
  rcases h.own.2 with ⟨e, h0⟩ | ⟨g, c, cur, e, h1, h2, h3, h4, h5, h6⟩
  · omega
  · injection e with e _ _
    refine ⟨g, e, h1, type_ne h2 h.row (by decide), cur, h2, ?_⟩
    rw [h5]
    exact Nat.mul_le_mul_right _ h3
theorem HpS.range {g : Nat} (h : HpS B0 hb (some ⟨g, 0, none⟩) cap L u) (i : Nat) (hi : i < L.length) : u.rangeAt g (i * 3) (hC L[i]) := fun j v hv => by
  obtain ⟨g', off, e, hg, hr⟩ := sat_own1 hC_length h.own i hi
  injection e with e
  cases e
  have := hr j v hv
  rwa [Nat.zero_add] at this
/-- an item stored over -/
theorem HpS.put {g : Nat} (h : HpS B0 hb (some ⟨g, 0, none⟩) cap L u) (hn : 0 < L.length) (i : Nat) (hi : i < L.length) (x : TV) : HpS B0 hb (some ⟨g, 0, none⟩) cap (L.set i x) (u.setCells g (i * 3) (hC x)) := by
  obtain ⟨g', e, _, hne, cur, hc, _⟩ := h.addr hn
  injection e with e
  cases e
  have ho := own_put hC_length h.own i hi x
  refine ⟨?_, ?_, h.base⟩
  · rw [heap_setCells_other _ _ (Ne.symm hne), List.length_set]
    exact h.row
  · rw [List.length_set] at ho ⊢
    exact ho
theorem HpS.there {g : Nat} (h : HpS B0 hb (some ⟨g, 0, none⟩) cap L u) (hn : 0 < L.length) (i : Nat) (hi : i < L.length) : u.there g (i * 3) 3 := by
  obtain ⟨g', e, _, _, cur, hc, hz⟩ := h.addr hn
  injection e with e
  cases e
  exact there_part hc (by omega)
theorem HpS.kp {g : Nat} (h : HpS B0 hb (some ⟨g, 0, none⟩) cap L u) (hn : 0 < L.length) (o : Nat) (vs : List Value) : Kp u (u.setCells g o vs) := by
  obtain ⟨g', e, _, _, cur, hc, _⟩ := h.addr hn
  injection e with e
  cases e
  exact Kp.set hc (.inl rfl) o vs
/-- the items' slice stored over -/
theorem HpS.slice (h : HpS B0 hb A cap L u) {A' : Option Addr} {cap' : Nat} {L' : List TV} (ho : u.ownsRow B0 179 3 (.slice A' L'.length cap') L'.length (L'.flatMap hC)) : HpS B0 hb A' cap' L' (u.setCell ⟨hb, 0, none⟩ (.slice A' L'.length cap')) := by
  refine ⟨heap_setCell_same u hb 0 _ _ (.slice A' L'.length cap') h.row, own_keep ho fun k cs hk _ => heap_setCell_other u ⟨hb, 0, none⟩ k _ (type_ne hk h.row (by decide)), h.base⟩
end
end Go.Proofs.YtbfhhnpoogmlnaaDoor
