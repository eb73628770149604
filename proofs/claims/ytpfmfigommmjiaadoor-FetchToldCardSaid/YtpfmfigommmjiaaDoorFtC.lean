/- Joined: Words, Drawn, StoreNew. -/
import Derived.Test.YtpfmfigommmjiaaDoorFtA
import Derived.Test.YtpfmfigommmjiaaDoorFtB
import Derived.Deep.MidRow
import Derived.Deep.RegionHeld3
namespace Go.Proofs.YtpfmfigommmjiaaDoor
open Go.RowKit
def uV (n : Nat) : Value := .int .u64 (n : Int)
/-- a filter's cells -/
def uC (l : List Nat) : Array Value := (l.map uV).toArray
theorem uC_size (l : List Nat) : (uC l).size = l.length := by simp [uC]
def URow (w : World) (e : TypeId) (B : Nat) (l : List Nat) : Prop := w.heap[B]? = some (.cells (uC l) e (0, 0))
theorem URow.cell {w : World} {e : TypeId} {B : Nat} {l : List Nat} (h : URow w e B l) {k : Nat} (hk : k < l.length) : w.cell? ⟨B, k, none⟩ = some (.int .u64 ((l.getD k 0 : Nat) : Int)) := by
  rw [cell_of_row w B k _ e _ h]
  simp [uC, List.getElem?_map, List.getD_eq_getElem?_getD, List.getElem?_eq_getElem hk, uV]
theorem URow.frozen {w : World} {e : TypeId} {B : Nat} {l : List Nat} (h : URow w e B l) (k : Nat) : w.frozen? ⟨B, k, none⟩ = false := frozen_of_row w B k _ e h
theorem URow.drew {w : World} {e : TypeId} {B : Nat} {l : List Nat} (h : URow w e B l) : URow w.drew e B l := h
theorem URow.lt {w : World} {e : TypeId} {B : Nat} {l : List Nat} (h : URow w e B l) : B < w.heap.size := lt_of_block h
theorem URow.below {w w' : World} {e : TypeId} {B : Nat} {l : List Nat} (h : URow w e B l) (hb : Below w.heap.size w w') : URow w' e B l := (hb.block B h.lt).trans h
theorem URow.set {w : World} {e : TypeId} {B : Nat} {l : List Nat} (h : URow w e B l) (k v : Nat) : URow (w.setCell ⟨B, k, none⟩ (.int .u64 (v : Int))) e B (l.set k v) := by
  have := heap_setCell_same w B k _ e (.int .u64 (v : Int)) h
  unfold URow
  rw [this]
  simp [uC, List.map_set, uV]
theorem URow.new (w : World) (e : TypeId) (l : List Nat) : URow (w.alloc (.cells (uC l) e)) e w.heap.size l := heap_alloc_new w _
theorem URow.alloc {w : World} {e : TypeId} {B : Nat} {l : List Nat} (h : URow w e B l) (o : Obj) : URow (w.alloc o) e B l := (Below.heap_alloc w o B h.lt).trans h
theorem URow.other {w : World} {e : TypeId} {B : Nat} {l : List Nat} (h : URow w e B l) {a : Addr} (ha : B ≠ a.block) (v : Value) : URow (w.setCell a v) e B l := (heap_setCell_other w a B v ha).trans h
theorem heap_setCells (b : Nat) (t : TypeId) : ∀ (vs : List Value) (o : Nat) (w : World) (cs : Array Value), w.heap[b]? = some (.cells cs t (0, 0)) →
    ∃ cs', (w.setCells b o vs).heap[b]? = some (.cells cs' t (0, 0)) ∧ cs'.size = cs.size ∧ ∀ i, cs'[i]? = if o ≤ i ∧ i < o + vs.length ∧ i < cs.size then vs[i - o]? else cs[i]?
  | [], o, w, cs, h => ⟨cs, h, rfl, fun i => by rw [if_neg (by simp; omega)]⟩
  | v :: r, o, w, cs, h => by
    have h1 := heap_setCell_same w b o cs t v h
    obtain ⟨cs', h2, h3, h4⟩ := heap_setCells b t r (o + 1) (w.setCell ⟨b, o, none⟩ v) _ h1
    refine ⟨cs', h2, by rw [h3]; simp, fun i => ?_⟩
    rw [h4]
    simp only [Array.size_setIfInBounds, List.length_cons]
    by_cases hi : i = o
    · subst hi
      rw [if_neg (by omega)]
      by_cases hs : i < cs.size
      · rw [if_pos ⟨by omega, by omega, hs⟩]
        simp [hs]
      · rw [if_neg (by omega)]
        simp [hs]
    · by_cases hc : o + 1 ≤ i ∧ i < o + 1 + r.length ∧ i < cs.size
      · rw [if_pos hc, if_pos ⟨by omega, by omega, by omega⟩]
        rw [show i - o = (i - (o + 1)) + 1 by omega]
        rfl
      · rw [if_neg hc, if_neg (by omega)]
        rw [Array.getElem?_setIfInBounds]
        rw [if_neg (by omega)]
theorem heap_setCells_other (b k : Nat) (hk : k ≠ b) : ∀ (vs : List Value) (o : Nat) (w : World), (w.setCells b o vs).heap[k]? = w.heap[k]?
  | [], _, _ => rfl
  | v :: r, o, w => by
    have := heap_setCells_other b k hk r (o + 1) (w.setCell ⟨b, o, none⟩ v)
    exact this.trans (heap_setCell_other w ⟨b, o, none⟩ k v hk)
theorem URow.there {w : World} {e : TypeId} {B : Nat} {l : List Nat} (h : URow w e B l) : w.there B 0 l.length := fun j hj => by
  rw [Nat.zero_add, h.cell hj]
  exact ⟨rfl, h.frozen j⟩
/-- a whole row is stored -/
theorem URow.store {w : World} {e : TypeId} {B : Nat} {l : List Nat} (h : URow w e B l) (m : List Nat) (hm : m.length = l.length) : URow (w.setCells B 0 (uC m).toList) e B m := by
  obtain ⟨cs', h1, h2, h3⟩ := heap_setCells B e (uC m).toList 0 w (uC l) h
  unfold URow
  rw [h1]
  congr 2
  apply Array.ext
  · rw [h2, uC_size, uC_size, hm]
  · intro i hi1 hi2
    have := h3 i
    rw [uC_size] at hi2
    rw [if_pos ⟨by omega, by rw [Array.length_toList, uC_size]; omega, by rw [uC_size]; omega⟩, Array.getElem?_eq_getElem hi1] at this
    simp only [Nat.sub_zero, Array.getElem?_toList] at this
    rw [Array.getElem?_eq_getElem (by rw [uC_size]; exact hi2)] at this
    exact Option.some.inj this
theorem below_setCells {B b : Nat} (hb : B ≤ b) : ∀ (vs : List Value) (o : Nat) {w w1 : World}, Below B w w1 → Below B w (w1.setCells b o vs)
  | [], _, _, _, h => h
  | v :: r, o, _, _, h => below_setCells hb r (o + 1) (h.setCell (p := ⟨b, o, none⟩) hb v)
theorem uC_one (l : List Nat) : (uC l).all (·.oneCell') = true := by
  unfold uC
  apply all_oneCell_toArray
  intro v hv
  simp only [List.mem_map] at hv
  obtain ⟨n, _, rfl⟩ := hv
  rfl
end Go.Proofs.YtpfmfigommmjiaaDoor
namespace Go.Proofs.YtpfmfigommmjiaaDoor
open Go.RowKit
section
variable {P : Program} {ops : Array Oper} {Q : Exit → Act → World → Prop} {md : Region.Mode} {S : World → Prop}
/-- A load of a long array comes up first. -/
theorem take_row {fuel : Nat} {listed : Array Bool} {l : List Value} {df : List Deferred} {w : World} (i : Nat) {oi : Oper} {d : Nat} {ty : TypeId} {x : Operand} {b o : Nat} {cs : List Value} {ds : TypeDesc}
    (hi : ops[i]? = some oi) (hs : Region.noSelect ops = true) (hf : Region.free md ops listed i = true) (hr : (Region.ready md ops listed).contains i = true)
    (hQ : ∀ c a w v, Q (.panic c) (a.put oi.dst v) w → Q (.panic c) a w)
    (hw : Region.wanted oi (yielded ops l.toArray) = true) (hd : oi.dst = some d) (ho : oi.op = .load ty x) (hx : (Act.mk l.toArray df).eval x = .pointer (some ⟨b, o, none⟩))
    (hS' : ∀ w, S w → w.rangeAt b o cs) (hu : P.underlying ty = some ds) (hrow : ds.isRow = true) (hsz : (P.info? ty).map (·.size) = some cs.length) (hS : S w)
    (h : wpAnyH P md ops Q S fuel (listed.setIfInBounds i true) ⟨(l.set d (.agg cs.toArray)).toArray, df⟩ w) : wpAnyH P md ops Q S (fuel + 1) listed ⟨l.toArray, df⟩ w := by
  refine wpAnyH_take (i := i) (oi := oi) (v := .agg cs.toArray) hi hs hf hr (fun c a w => hQ c a w _) (yieldsIf_load_mid hw ty x ho b o hx cs ds hS' hu hrow hsz) hS ?_
  simpa only [hd, Act.put, List.setIfInBounds_toArray] using h
/-- An operation that is not wanted comes up first. -/
theorem take_not {fuel : Nat} {listed : Array Bool} {l : List Value} {df : List Deferred} {w : World} (i : Nat) {oi : Oper} {d : Nat}
    (hi : ops[i]? = some oi) (hs : Region.noSelect ops = true) (hf : Region.free md ops listed i = true) (hr : (Region.ready md ops listed).contains i = true)
    (hQ : ∀ c a w v, Q (.panic c) (a.put oi.dst v) w → Q (.panic c) a w)
    (hw : Region.wanted oi (yielded ops l.toArray) = false) (hd : oi.dst = some d) (hS : S w)
    (h : wpAnyH P md ops Q S fuel (listed.setIfInBounds i true) ⟨(l.set d undef).toArray, df⟩ w) : wpAnyH P md ops Q S (fuel + 1) listed ⟨l.toArray, df⟩ w := by
  refine wpAnyH_take (i := i) (oi := oi) (v := undef) hi hs hf hr (fun c a w => hQ c a w _) (Or.inr ⟨hw, rfl⟩) hS ?_
  simpa only [hd, Act.put, List.setIfInBounds_toArray] using h
/-- An operation whose value is the same in every world comes up first. -/
theorem take_val {fuel : Nat} {listed : Array Bool} {l : List Value} {df : List Deferred} {w : World} (i : Nat) {oi : Oper} {d : Nat} (v : Value)
    (hi : ops[i]? = some oi) (hs : Region.noSelect ops = true) (hf : Region.free md ops listed i = true) (hr : (Region.ready md ops listed).contains i = true)
    (hQ : ∀ c a w v, Q (.panic c) (a.put oi.dst v) w → Q (.panic c) a w)
    (hw : Region.wanted oi (yielded ops l.toArray) = true) (hd : oi.dst = some d) (hv : ∀ w, S w → (execOp (Act.mk l.toArray df).eval oi).run P w = .ok (.value v) w) (hS : S w)
    (h : wpAnyH P md ops Q S fuel (listed.setIfInBounds i true) ⟨(l.set d v).toArray, df⟩ w) : wpAnyH P md ops Q S (fuel + 1) listed ⟨l.toArray, df⟩ w := by
  refine wpAnyH_take (i := i) (oi := oi) (v := v) hi hs hf hr (fun c a w => hQ c a w _) (Or.inl ⟨hw, hv⟩) hS ?_
  simpa only [hd, Act.put, List.setIfInBounds_toArray] using h
/-- One operation alone is ready. -/
theorem one_ready {fuel : Nat} {listed : Array Bool} {a : Act} {w : World} (i : Nat) {o : Oper} (hr : Region.ready md ops listed = [i]) (ho : ops[i]? = some o)
    (hw : Region.wanted o (yielded ops a.tmps) = true)
    (h : ∀ K' : Act → World → Prop, Hid (∀ a w, S w → wpAnyH P md ops Q S fuel (listed.setIfInBounds i true) a w → K' a w) → Oper.wp P o a w K' Q) : wpAnyH P md ops Q S (fuel + 1) listed a w := by
  refine wpAnyH_ready hr (by simp) (AllReadyH.cons ho (fun K hK => ?_) AllReadyH.nil)
  rw [if_pos hw]
  exact h K (Lib.hid fun a w hS hx => hK.out a w hS fun _ => hx)
/-- Two operations are ready. -/
theorem two_ready {fuel : Nat} {listed : Array Bool} {a : Act} {w : World} (i j : Nat) {o p : Oper} (hr : Region.ready md ops listed = [i, j]) (ho : ops[i]? = some o) (hp : ops[j]? = some p)
    (hw : Region.wanted o (yielded ops a.tmps) = true) (hw2 : Region.wanted p (yielded ops a.tmps) = true)
    (h : ∀ K' : Act → World → Prop, Hid (∀ a w, S w → wpAnyH P md ops Q S fuel (listed.setIfInBounds i true) a w → K' a w) → Oper.wp P o a w K' Q)
    (h2 : ∀ K' : Act → World → Prop, Hid (∀ a w, S w → wpAnyH P md ops Q S fuel (listed.setIfInBounds j true) a w → K' a w) → Oper.wp P p a w K' Q) : wpAnyH P md ops Q S (fuel + 1) listed a w := by
  refine wpAnyH_ready hr (by simp) (AllReadyH.cons ho (fun K hK => ?_) (AllReadyH.cons hp (fun K hK => ?_) AllReadyH.nil))
  · rw [if_pos hw]
    exact h K (Lib.hid fun a w hS hx => hK.out a w hS fun _ => hx)
  · rw [if_pos hw2]
    exact h2 K (Lib.hid fun a w hS hx => hK.out a w hS fun _ => hx)
/-- What an operation that yields a value leaves to be shown. -/
theorem put_eq {l : List Value} {df : List Deferred} {o : Oper} {d : Nat} {v : Value} (hd : o.dst = some d) : (Act.mk l.toArray df).put o.dst v = ⟨(l.set d v).toArray, df⟩ := by
  simp only [hd, Act.put, List.setIfInBounds_toArray]
end
end Go.Proofs.YtpfmfigommmjiaaDoor
namespace Go.Proofs.YtpfmfigommmjiaaDoor
open Go.RowKit
theorem setCells_frame (b : Nat) : ∀ (vs : List Value) (o : Nat) (w : World), w.setCells b o vs = { w with heap := (w.setCells b o vs).heap } ∧ (w.setCells b o vs).heap.size = w.heap.size
  | [], _, _ => ⟨rfl, rfl⟩
  | v :: r, o, w => by
    obtain ⟨h, h2⟩ := setCells_frame b r (o + 1) (w.setCell ⟨b, o, none⟩ v)
    refine ⟨h, ?_⟩
    show ((w.setCell ⟨b, o, none⟩ v).setCells b (o + 1) r).heap.size = _
    rw [h2]
    simp [World.setCell]
theorem setCells_full {w : World} {b : Nat} {t : TypeId} {Z : Array Value} (hz : w.heap[b]? = some (.cells Z t (0, 0))) (cs : Array Value) (h : cs.size = Z.size) :
    (w.setCells b 0 cs.toList).heap[b]? = some (.cells cs t (0, 0)) := by
  obtain ⟨cs', h2, h3, h4⟩ := heap_setCells b t cs.toList 0 w Z hz
  rw [h2]
  congr 2
  apply Array.ext_getElem?
  intro i
  rw [h4]
  by_cases hi : i < Z.size
  · rw [if_pos ⟨Nat.zero_le _, by rw [Array.length_toList]; omega, hi⟩]
    simp
  · rw [if_neg (fun hc => hi hc.2.2)]
    rw [Array.getElem?_eq_none (by omega), Array.getElem?_eq_none (by omega)]
theorem alloc_setCells (w : World) (ty : TypeId) (Z cs : Array Value) (h : cs.size = Z.size) : (w.alloc (.cells Z ty)).setCells w.heap.size 0 cs.toList = w.alloc (.cells cs ty) := by
  obtain ⟨e, es⟩ := setCells_frame w.heap.size cs.toList 0 (w.alloc (.cells Z ty))
  have hf := setCells_full (heap_alloc_new w (.cells Z ty)) cs h
  have ho := fun k hk => heap_setCells_other w.heap.size k hk cs.toList 0 (w.alloc (.cells Z ty))
  generalize ((w.alloc (.cells Z ty)).setCells w.heap.size 0 cs.toList) = w2 at *
  have hh : w2.heap = (w.alloc (.cells cs ty)).heap := by
    apply Array.ext_getElem?
    intro k
    by_cases hk : k = w.heap.size
    · subst hk
      rw [hf]
      exact (heap_alloc_new w (.cells cs ty)).symm
    · rw [ho k hk]
      show (w.heap.push _)[k]? = (w.heap.push _)[k]?
      rw [Array.getElem?_push, Array.getElem?_push, if_neg (by omega), if_neg (by omega)]
  rw [e, hh]
  rfl
/-- The arm for the store: the block was the last one made. -/
theorem wpList_store_new {P : Program} {ops : Array Oper} {rest : List Oper} {op : Oper} {a : Act} {w : World} {Q : Exit → Act → World → Prop} {Z : Array Value} {bt : TypeId} (hgd : op.guard = none) (ty : TypeId) (x y : Operand) (ho : op.op = .store ty x y)
    (n : Nat) (cells : Array Value) (hx : a.eval x = .pointer (some ⟨n, 0, none⟩)) (hy : a.eval y = .agg cells)
    (hz : cells.size = Z.size) (hi : (P.info? ty).map (·.size) = some cells.size) (h1 : cells.all (·.oneCell') = true) (hn : n = w.heap.size)
    (h : wpList P ops Q rest (a.put op.dst undef) (w.alloc (.cells cells bt))) : wpList P ops Q (op :: rest) a (w.alloc (.cells Z bt)) := by
  subst hn
  refine wpList_store_mid hgd ty x y ho w.heap.size 0 cells hx hy ?_ hi h1 ?_
  · intro j hj
    rw [Nat.zero_add]
    have hb := heap_alloc_new w (.cells Z bt)
    refine ⟨?_, frozen_of_row _ _ _ _ _ hb⟩
    rw [cell_of_row _ _ _ _ _ _ hb, Array.getElem?_eq_getElem (by omega)]
    rfl
  · rw [alloc_setCells w bt Z cells hz]
    exact h
theorem bC_one (l : List Nat) : ((l.map bV).toArray).all (·.oneCell') = true := by
  apply Array.all_eq_true_iff_forall_mem.2
  intro v hv
  simp only [List.mem_toArray, List.mem_map] at hv
  obtain ⟨n, _, rfl⟩ := hv
  rfl
end Go.Proofs.YtpfmfigommmjiaaDoor
