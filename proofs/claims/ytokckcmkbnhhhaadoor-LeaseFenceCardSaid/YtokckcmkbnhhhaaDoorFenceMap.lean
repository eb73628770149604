/- LeaseFence: its map of tokens, and what the loop stands on. -/
import Derived.Test.YtokckcmkbnhhhaaDoorEnterW
import Derived.Maps.Own
import Derived.Maps.OwnSet
import Derived.Maps.OwnOps
import Derived.Maps.RangeWalk
import Derived.Maps.Views
import Derived.Sort.KeysCollected
import Derived.Sort.EncStr
import Derived.StringKeys
namespace Go.Proofs.YtokckcmkbnhhhaaDoor
open Go.RowKit Plain Go.Maps
abbrev TMap (w : World) (M n : Nat) (D : DataW Unit) : Prop := w.ownsMap Tryd.prog 9 (plainElem Tryd.prog 3) M n D
theorem law_strT : Keyed Tryd.prog 9 := string_keyed Tryd.underlying9
theorem zero_intT (w : World) : (zeroValue 3).run Tryd.prog w = .ok (.int .i64 0) w := by kernel_rfl
/-- every token lies between 0 and t -/
def DI (D : DataW Unit) (t : Int) : Prop := ∀ (kl : Lit) (c : Int), D.atKey kl (.lit (.int .i64 0)) = .lit (.int .i64 c) → 0 ≤ c ∧ c ≤ t
theorem DI.empty : DI (.map []) 0 := by
  intro kl c h
  have : DataW.atKey (H := Unit) (.map []) kl (.lit (.int .i64 0)) = .lit (.int .i64 0) := rfl
  rw [this] at h
  injection h with h
  injection h with _ h
  omega
theorem DI.put {D : DataW Unit} {t : Int} (h : DI D t) (hD : IsMap D) (ht : 0 ≤ t) (k : List UInt8) : DI (D.put (.string k) (.lit (.int .i64 (t + 1)))) (t + 1) := by
  intro kl c hc
  by_cases e : kl = .string k
  · subst e
    rw [atKey_put_same hD (by simp [WideAt.IsKeyLit])] at hc
    injection hc with hc
    injection hc with _ hc
    omega
  · rw [atKey_put_other e] at hc
    have := h kl c hc
    omega
set_option maxRecDepth 100000 in
theorem tk_look {w : World} {M n : Nat} {D : DataW Unit} {t : Int} (h : TMap w M n D) (hd : DI D t) (q : ByteArray) (hq : q.size ≤ 1048576) : ∃ c : Int, (0 ≤ c ∧ c ≤ t) ∧ ∀ (w' : World) (n' : Nat), TMap w' M n' D → (Instr.lookup 39 (.map (some M)) (.string q) false).run Tryd.prog w' = .ok (.int .i64 c) w' := by
  have hk : keyOf Tryd.prog 9 (.string q) = some (.string q.data.toList) := Go.WideMaps.keyOf_string_mk Tryd.underlying9 (by unfold maxLen; omega)
  obtain ⟨c, _, hat, _⟩ := h.lookup_int law_strT Tryd.underlying39 Tryd.underlying3 (zero_intT w) hk
  refine ⟨c, hd _ _ hat, fun w' n' h' => ?_⟩
  obtain ⟨c', hrun, hat', _⟩ := h'.lookup_int law_strT Tryd.underlying39 Tryd.underlying3 (zero_intT w') hk
  have e : c = c' := by
    have e := hat.symm.trans hat'
    injection e with e
    injection e
  rw [hrun, e]
theorem TMap.of_heap {w w' : World} {M n : Nat} {D : DataW Unit} (h : TMap w M n D) (e : w'.heap[M]? = w.heap[M]?) : TMap w' M n D := by
  obtain ⟨es, clock, hb, rest⟩ := h
  exact ⟨es, clock, e.trans hb, rest⟩
theorem TMap.lt {w : World} {M n : Nat} {D : DataW Unit} (h : TMap w M n D) : M < w.heap.size := by
  obtain ⟨es, clock, hb, _⟩ := h
  exact (Array.getElem?_eq_some_iff.1 hb).1
/-- what the loop stands on: the lease, the fence, the tokens, the fence's texts -/
def FS (w0 : World) (LB : Nat) (who : ByteArray) (u t seen : Int) (ta : Option Addr) (tc : Nat) (texts : List ByteArray) (n : Nat) (D : DataW Unit) (w : World) : Prop :=
  Below w0.heap.size w0 w ∧ w.heap[LB]? = some (.cells #[.string who, .int .i64 u, .int .i64 t] 25 (0, 0)) ∧ w.heap[LB + 1]? = some (.cells #[.int .i64 seen, .slice ta texts.length tc] 38 (0, 0)) ∧ TMap w (LB + 2) n D ∧
    w.ownsRow (LB + 3) 9 1 (.slice ta texts.length tc) texts.length (texts.flatMap sC)
section
variable {w0 w w' : World} {LB : Nat} {who : ByteArray} {u t seen : Int} {ta : Option Addr} {tc : Nat} {texts : List ByteArray} {n : Nat} {D : DataW Unit}
theorem FS.below (h : FS w0 LB who u t seen ta tc texts n D w) (hb : Below w.heap.size w w') : FS w0 LB who u t seen ta tc texts n D w' := by
  obtain ⟨h1, h2, h3, h4, h5⟩ := h
  exact ⟨Below.step h1 hb, (hb.block _ (lt_of_block h2)).trans h2, (hb.block _ (lt_of_block h3)).trans h3, h4.of_heap (hb.block _ h4.lt), own_below' h5 hb⟩
theorem FS.alloc (h : FS w0 LB who u t seen ta tc texts n D w) (o : Obj) : FS w0 LB who u t seen ta tc texts n D (w.alloc o) := h.below ((Below.refl _ _).alloc (Nat.le_refl _) o)
theorem FS.lease (h : FS w0 LB who u t seen ta tc texts n D w) (hL : w0.heap.size ≤ LB) (who' : ByteArray) (u' t' : Int) : FS w0 LB who' u' t' seen ta tc texts n D (w.setCells LB 0 [.string who', .int .i64 u', .int .i64 t']) := by
  obtain ⟨h1, h2, h3, h4, h5⟩ := h
  exact ⟨below_setCells hL _ _ h1, setCells_full h2 #[.string who', .int .i64 u', .int .i64 t'] rfl, (heap_setCells_other LB _ (by omega) _ _ _).trans h3, h4.of_heap (heap_setCells_other LB _ (by omega) _ _ _), own_setCells h5 (by omega) _ _⟩
theorem FS.fence (h : FS w0 LB who u t seen ta tc texts n D w) (hL : w0.heap.size ≤ LB) {seen' : Int} {ta' : Option Addr} {tc' : Nat} {texts' : List ByteArray} (ho : w.ownsRow (LB + 3) 9 1 (.slice ta' texts'.length tc') texts'.length (texts'.flatMap sC)) :
    FS w0 LB who u t seen' ta' tc' texts' n D (w.setCells (LB + 1) 0 [.int .i64 seen', .slice ta' texts'.length tc']) := by
  obtain ⟨h1, h2, h3, h4, h5⟩ := h
  exact ⟨below_setCells (by omega) _ _ h1, (heap_setCells_other (LB + 1) _ (by omega) _ _ _).trans h2, setCells_full h3 #[.int .i64 seen', .slice ta' texts'.length tc'] rfl, h4.of_heap (heap_setCells_other (LB + 1) _ (by omega) _ _ _), own_setCells ho (by omega) _ _⟩
theorem FS.map (h : FS w0 LB who u t seen ta tc texts n D w) (hL : w0.heap.size ≤ LB) {n' : Nat} {D' : DataW Unit} (hg : w.grownBy w' (some (LB + 2))) (hm : TMap w' (LB + 2) n' D') : FS w0 LB who u t seen ta tc texts n' D' w' := by
  obtain ⟨h1, h2, h3, h4, h5⟩ := h
  have hb : ∀ B, B ≠ LB + 2 → B < w.heap.size → w'.heap[B]? = w.heap[B]? := fun B hne hlt => hg.block B hlt (fun e => hne (Option.some.inj e))
  refine ⟨h1.grown hg h1.size (fun j hj => by cases hj; omega), (hb _ (by omega) (lt_of_block h2)).trans h2, (hb _ (by omega) (lt_of_block h3)).trans h3, hm, ?_⟩
  refine ⟨h5.1, ?_⟩
  rcases h5.2 with h | ⟨g, cap, cur, hv, hbs, hg2, hr⟩
  · exact .inl h
  · exact .inr ⟨g, cap, cur, hv, hbs, (hb _ (by omega) (lt_of_block hg2)).trans hg2, hr⟩
end
/-- a row of two cells written over, cell by cell -/
theorem row2_steps {W : World} {B : Nat} {a b : Value} {t : TypeId} (h : W.heap[B]? = some (.cells #[a, b] t (0, 0))) (v0 : Value) :
    W.cell? ⟨B, 0, none⟩ = some a ∧ W.frozen? ⟨B, 0, none⟩ = false ∧ (W.setCell ⟨B, 0, none⟩ v0).cell? ⟨B, 1, none⟩ = some b ∧ (W.setCell ⟨B, 0, none⟩ v0).frozen? ⟨B, 1, none⟩ = false := by
  have h1 : (W.setCell ⟨B, 0, none⟩ v0).heap[B]? = some (.cells #[v0, b] t (0, 0)) := heap_setCell_same W B 0 _ t v0 h
  exact ⟨cell_of_row _ _ 0 _ _ _ h, frozen_of_row _ _ 0 _ _ h, cell_of_row _ _ 1 _ _ _ h1, frozen_of_row _ _ 1 _ _ h1⟩
theorem fs_cells {w : World} {B : Nat} {s : Int} {a : Option Addr} {n c : Nat} {ty : TypeId} (h : w.heap[B]? = some (.cells #[.int .i64 s, .slice a n c] ty (0, 0))) :
    w.cell? ⟨B, 0, none⟩ = some (.int .i64 s) ∧ w.cell? ⟨B, 1, none⟩ = some (.slice a n c) := ⟨cell_of_row _ _ 0 _ _ _ h, cell_of_row _ _ 1 _ _ _ h⟩
end Go.Proofs.YtokckcmkbnhhhaaDoor
