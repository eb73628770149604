/- Runs of single operations for drawn regions: a row loaded, a conversion that makes memory; rows kept while others are made. -/
import Derived.Test.YtpfmfigommmjiaaDoorDet2
import Derived.Test.YtpfmfigommmjiaaDoorCRow
import Derived.Deep.MidRow
namespace Go.Proofs.YtpfmfigommmjiaaDoor
open Go.RowKit
theorem load_run {P : Program} {o : Oper} {a : Act} {w : World} (ty : TypeId) (x : Operand) (ho : o.op = .load ty x) (b off : Nat) (hx : a.eval x = .pointer (some ⟨b, off, none⟩)) (cs : List Value) (d : TypeDesc) (hr : w.rangeAt b off cs) (hu : P.underlying ty = some d) (hd : d.isRow = true) (hi : (P.info? ty).map (·.size) = some cs.length) :
    (execOp a.eval o).run P w = .ok (.value (.agg cs.toArray)) w := by
  unfold execOp
  simp only [ho, hx, Instr.loadAt, Instr.sureAddr, Sem.run_bind, Sem.run_pure, Result.andThen_ok, run_loadVar_mid w b off ty cs d hr hu hd hi]
theorem conv_run {P : Program} {o : Oper} {a : Act} {x : Operand} {f t : TypeId} {v u : Value} {w w' : World} (ho : o.op = .convert f t x) (hx : a.eval x = v) (hc : (convert f t v).run P w = .ok u w') : (execOp a.eval o).run P w = .ok (.value u) w' := by
  unfold execOp
  simp only [ho, hx, Sem.run_bind, hc, Result.andThen_ok, Sem.run_pure]
theorem there_row {w : World} {b : Nat} {t : TypeId} {cs : Array Value} (h : w.heap[b]? = some (.cells cs t (0, 0))) : w.there b 0 cs.size := fun j hj => by
  rw [Nat.zero_add]
  refine ⟨?_, frozen_of_row _ _ _ _ _ h⟩
  rw [cell_of_row _ _ _ _ _ _ h, Array.getElem?_eq_getElem hj]
  rfl
theorem range_of_crow {w : World} {B : Nat} {l : List Nat} (h : CRow w B l) : w.rangeAt B 0 (l.map bV) := by
  intro j v hj
  rw [List.getElem?_map] at hj
  cases e : l[j]? with
  | none => rw [e] at hj; cases hj
  | some x =>
    rw [e] at hj
    have hjl : j < l.length := by
      rcases Nat.lt_or_ge j l.length with h | h
      · exact h
      · rw [List.getElem?_eq_none h] at e; cases e
    rw [Nat.zero_add, h.cell hjl, List.getD_eq_getElem?_getD, e]
    exact hj
/-- block b begins with the bytes l; it is a row of elements of type t -/
def RowB (t : TypeId) (b : Nat) (l : List Nat) (w : World) : Prop := CRow w b l ∧ ∃ C fr, w.heap[b]? = some (.cells C t fr)
theorem RowB.keep {t : TypeId} {b : Nat} {l : List Nat} {w w' : World} (h : RowB t b l w) (hb : w'.heap[b]? = w.heap[b]?) : RowB t b l w' := by
  obtain ⟨⟨C, t', lo, hi, h1, h2, h3⟩, C', fr, h4⟩ := h
  exact ⟨⟨C, t', lo, hi, hb.trans h1, h2, h3⟩, C', fr, hb.trans h4⟩
theorem RowB.below {t : TypeId} {b : Nat} {l : List Nat} {w w' : World} (h : RowB t b l w) (hb : Below w.heap.size w w') : RowB t b l w' := h.keep (hb.block b (by obtain ⟨_, _, _, h4⟩ := h; exact lt_of_block h4))
theorem RowB.new (w : World) (t : TypeId) (s : ByteArray) : RowB t w.heap.size (strN s) (Lib.bytesWorld w t s) := ⟨crow_bytes w t s, _, _, Lib.bytesWorld_at_new w t s⟩
/-- block b, made here, is a row of n cells that may be written -/
def RowZ (t : TypeId) (B0 b n : Nat) (w : World) : Prop := B0 ≤ b ∧ ∃ cs, w.heap[b]? = some (.cells cs t (0, 0)) ∧ cs.size = n
theorem RowZ.keep {t : TypeId} {B0 b n : Nat} {w w' : World} (h : RowZ t B0 b n w) (hb : w'.heap[b]? = w.heap[b]?) : RowZ t B0 b n w' := by
  obtain ⟨h0, cs, h1, h2⟩ := h
  exact ⟨h0, cs, hb.trans h1, h2⟩
theorem RowZ.below {t : TypeId} {B0 b n : Nat} {w w' : World} (h : RowZ t B0 b n w) (hb : Below w.heap.size w w') : RowZ t B0 b n w' := h.keep (hb.block b (by obtain ⟨_, _, h1, _⟩ := h; exact lt_of_block h1))
end Go.Proofs.YtpfmfigommmjiaaDoor
