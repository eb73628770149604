/- Joined: Words, AmpleBase, Drawn, StoreNew, OwnForm, AmpleGen. -/
import Derived.Test.YtpfmfigommmjiaaDoorToAA
import Derived.Deep.MidRow
import Derived.Lib.JoinLaws
import Derived.Laws.MakeOwn
import Derived.Deep.RegionHeld3
namespace Go.Proofs.YtpfmfigommmjiaaDoor
open Go.RowKit
def uV (n : Nat) : Value := .int .u64 (n : Int)
/-- a filter's cells -/
def uC (l : List Nat) : Array Value := (l.map uV).toArray
theorem uC_size (l : List Nat) : (uC l).size = l.length := by simp [uC]
def URow (w : World) (e : TypeId) (B : Nat) (l : List Nat) : Prop := w.heap[B]? = some (.cells (uC l) e (0, 0))
theorem URow.cell {w : World} {e : TypeId} {B : Nat} {l : List Nat} (h : URow w e B l) {k : Nat} (hk : k < l.length) : w.cell? ⟨B, k, none⟩ = some (.int .u64 ((l.getD k 0 : Nat) : Int)) := by
  rw [cell_of_row w B k _ e _ h]
  simp [uC, List.getElem?_map, List.getD_eq_getElem?_getD, List.getElem?_eq_getElem hk, uV]
theorem URow.frozen {w : World} {e : TypeId} {B : Nat} {l : List Nat} (h : URow w e B l) (k : Nat) : w.frozen? ⟨B, k, none⟩ = false := frozen_of_row w B k _ e h
theorem URow.drew {w : World} {e : TypeId} {B : Nat} {l : List Nat} (h : URow w e B l) : URow w.drew e B l := h
theorem URow.lt {w : World} {e : TypeId} {B : Nat} {l : List Nat} (h : URow w e B l) : B < w.heap.size := lt_of_block h
theorem URow.below {w w' : World} {e : TypeId} {B : Nat} {l : List Nat} (h : URow w e B l) (hb : Below w.heap.size w w') : URow w' e B l := (hb.block B h.lt).trans h
theorem URow.set {w : World} {e : TypeId} {B : Nat} {l : List Nat} (h : URow w e B l) (k v : Nat) : URow (w.setCell ⟨B, k, none⟩ (.int .u64 (v : Int))) e B (l.set k v) := by
  have := heap_setCell_same w B k _ e (.int .u64 (v : Int)) h
  unfold URow
  rw [this]
  simp [uC, List.map_set, uV]
theorem URow.new (w : World) (e : TypeId) (l : List Nat) : URow (w.alloc (.cells (uC l) e)) e w.heap.size l := heap_alloc_new w _
theorem URow.alloc {w : World} {e : TypeId} {B : Nat} {l : List Nat} (h : URow w e B l) (o : Obj) : URow (w.alloc o) e B l := (Below.heap_alloc w o B h.lt).trans h
theorem URow.other {w : World} {e : TypeId} {B : Nat} {l : List Nat} (h : URow w e B l) {a : Addr} (ha : B ≠ a.block) (v : Value) : URow (w.setCell a v) e B l := (heap_setCell_other w a B v ha).trans h
theorem heap_setCells (b : Nat) (t : TypeId) : ∀ (vs : List Value) (o : Nat) (w : World) (cs : Array Value), w.heap[b]? = some (.cells cs t (0, 0)) →
    ∃ cs', (w.setCells b o vs).heap[b]? = some (.cells cs' t (0, 0)) ∧ cs'.size = cs.size ∧ ∀ i, cs'[i]? = if o ≤ i ∧ i < o + vs.length ∧ i < cs.size then vs[i - o]? else cs[i]?
  | [], o, w, cs, h => ⟨cs, h, rfl, fun i => by rw [if_neg (by simp; omega)]⟩
  | v :: r, o, w, cs, h => by
    have h1 := heap_setCell_same w b o cs t v h
    obtain ⟨cs', h2, h3, h4⟩ := heap_setCells b t r (o + 1) (w.setCell ⟨b, o, none⟩ v) _ h1
    refine ⟨cs', h2, by rw [h3]; simp, fun i => ?_⟩
    rw [h4]
    simp only [Array.size_setIfInBounds, List.length_cons]
    by_cases hi : i = o
    · subst hi
      rw [if_neg (by omega)]
      by_cases hs : i < cs.size
      · rw [if_pos ⟨by omega, by omega, hs⟩]
        simp [hs]
      · rw [if_neg (by omega)]
        simp [hs]
    · by_cases hc : o + 1 ≤ i ∧ i < o + 1 + r.length ∧ i < cs.size
      · rw [if_pos hc, if_pos ⟨by omega, by omega, by omega⟩]
        rw [show i - o = (i - (o + 1)) + 1 by omega]
        rfl
      · rw [if_neg hc, if_neg (by omega)]
        rw [Array.getElem?_setIfInBounds]
        rw [if_neg (by omega)]
theorem heap_setCells_other (b k : Nat) (hk : k ≠ b) : ∀ (vs : List Value) (o : Nat) (w : World), (w.setCells b o vs).heap[k]? = w.heap[k]?
  | [], _, _ => rfl
  | v :: r, o, w => by
    have := heap_setCells_other b k hk r (o + 1) (w.setCell ⟨b, o, none⟩ v)
    exact this.trans (heap_setCell_other w ⟨b, o, none⟩ k v hk)
theorem URow.there {w : World} {e : TypeId} {B : Nat} {l : List Nat} (h : URow w e B l) : w.there B 0 l.length := fun j hj => by
  rw [Nat.zero_add, h.cell hj]
  exact ⟨rfl, h.frozen j⟩
/-- a whole row is stored -/
theorem URow.store {w : World} {e : TypeId} {B : Nat} {l : List Nat} (h : URow w e B l) (m : List Nat) (hm : m.length = l.length) : URow (w.setCells B 0 (uC m).toList) e B m := by
  obtain ⟨cs', h1, h2, h3⟩ := heap_setCells B e (uC m).toList 0 w (uC l) h
  unfold URow
  rw [h1]
  congr 2
  apply Array.ext
  · rw [h2, uC_size, uC_size, hm]
  · intro i hi1 hi2
    have := h3 i
    rw [uC_size] at hi2
    rw [if_pos ⟨by omega, by rw [Array.length_toList, uC_size]; omega, by rw [uC_size]; omega⟩, Array.getElem?_eq_getElem hi1] at this
    simp only [Nat.sub_zero, Array.getElem?_toList] at this
    rw [Array.getElem?_eq_getElem (by rw [uC_size]; exact hi2)] at this
    exact Option.some.inj this
theorem below_setCells {B b : Nat} (hb : B ≤ b) : ∀ (vs : List Value) (o : Nat) {w w1 : World}, Below B w w1 → Below B w (w1.setCells b o vs)
  | [], _, _, _, h => h
  | v :: r, o, _, _, h => below_setCells hb r (o + 1) (h.setCell (p := ⟨b, o, none⟩) hb v)
theorem uC_one (l : List Nat) : (uC l).all (·.oneCell') = true := by
  unfold uC
  apply all_oneCell_toArray
  intro v hv
  simp only [List.mem_map] at hv
  obtain ⟨n, _, rfl⟩ := hv
  rfl
end Go.Proofs.YtpfmfigommmjiaaDoor
namespace Go.Proofs.YtpfmfigommmjiaaDoor
open Go.RowKit
set_option linter.unusedVariables false
theorem src_sat {α : Type} {P : Program} {size : Nat} {cf : α → List Value} {w : World} {a : Option Addr} {l : List α} {tx e : TypeId} (hk : P.underlying tx = some (.slice e)) (hsz : 0 < size) (hc : ∀ y, (cf y).length = size) (h1 : ∀ y, ∀ u ∈ cf y, u.oneCell' = true) (h : SAt size cf w a l) (c : Nat) : Src P size tx (.slice a l.length c) l.length (l.flatMap cf) w := by
  by_cases hl : l = []
  · subst hl
    cases a with
    | none => exact Src.ofNil w hk c
    | some ad => exact Src.ofSlice w hk ad 0 c [] (by simp) (by simp) (by simp)
  · obtain ⟨g, off, rfl, _⟩ := h 0 (by have := List.length_pos_iff.2 hl; omega)
    exact Src.ofSlice w hk ⟨g, off, none⟩ l.length c (l.flatMap cf) (flat_length hc l) (sat_cells hsz hc h) (fun u hu => by
      obtain ⟨y, _, hy⟩ := List.mem_flatMap.1 hu
      exact h1 y u hy)
theorem row_mid {w : World} {g : Nat} {t : TypeId} (xs ys zs news : List Value) (h : w.heap[g]? = some (.cells (xs ++ ys ++ zs).toArray t (0, 0))) (hl : ys.length = news.length) : (w.setCells g xs.length news).heap[g]? = some (.cells (xs ++ news ++ zs).toArray t (0, 0)) := by
  obtain ⟨cs, h1, h2, h3⟩ := heap_setCells g t news xs.length w _ h
  rw [h1]
  congr 2
  apply Array.ext_getElem?
  intro i
  rw [h3]
  simp only [List.getElem?_toArray, List.size_toArray, List.length_append]
  by_cases c1 : i < xs.length
  · rw [if_neg (by omega), List.append_assoc, List.append_assoc, List.getElem?_append_left c1, List.getElem?_append_left c1]
  · by_cases c2 : i < xs.length + news.length
    · rw [if_pos (by omega), List.getElem?_append_left (by rw [List.length_append]; omega), List.getElem?_append_right (by omega)]
    · rw [if_neg (by omega), List.getElem?_append_right (by rw [List.length_append]; omega), List.getElem?_append_right (by rw [List.length_append]; omega), List.length_append, List.length_append, hl]
theorem row_is {w : World} {g : Nat} {t : TypeId} {cs : Array Value} (h : w.heap[g]? = some (.cells cs t (0, 0))) (o n : Nat) (hn : o + n ≤ cs.size) : (∀ j, j < n → (w.cell? ⟨g, o + j, none⟩).isSome = true) ∧ ∀ j, j < n → w.frozen? ⟨g, o + j, none⟩ = false := by
  refine ⟨fun j hj => ?_, fun j hj => frozen_of_row _ _ _ _ _ h⟩
  rw [cell_of_row _ _ _ _ _ _ h, Array.getElem?_eq_getElem (by omega)]
  rfl
/-- a slice that came of ample: its elements, two to fill, room for one more -/
def Amp {α : Type} (c : α → List Value) (z : List Value) (t : TypeId) (w : World) (g : Nat) (l : List α) (f : α) : Prop := w.heap[g]? = some (.cells (l.flatMap c ++ (c f ++ c f) ++ z).toArray t (0, 0))
theorem Amp.below {α : Type} {c : α → List Value} {z : List Value} {t : TypeId} {w w' : World} {g : Nat} {l : List α} {f : α} (h : Amp c z t w g l f) (hb : Below w.heap.size w w') : Amp c z t w' g l f := (hb.block _ (lt_of_block h)).trans h
theorem Amp.sat {α : Type} {c : α → List Value} {z : List Value} {t : TypeId} {w : World} {g n : Nat} {l : List α} {f : α} (h : Amp c z t w g l f) (hc : ∀ y, (c y).length = n) : SAt n c w (some ⟨g, 0, none⟩) l := fun i hi => by
  refine ⟨g, 0, rfl, lt_of_block h, fun j u hu => ?_⟩
  have hj : j < n := by
    rcases Nat.lt_or_ge j n with h | h
    · exact h
    · rw [List.getElem?_eq_none (by rw [hc]; exact h)] at hu; cases hu
  have hlt : i * n + j < l.length * n := by
    have : (i + 1) * n ≤ l.length * n := Nat.mul_le_mul_right _ hi
    rw [Nat.succ_mul] at this
    omega
  rw [Nat.zero_add, cell_of_row _ _ _ _ _ _ h, List.getElem?_toArray, List.append_assoc, List.getElem?_append_left (by rw [flat_length hc]; exact hlt), flat_get hc l i j hi hj]
  exact hu
theorem Amp.fill {α : Type} {c : α → List Value} {z : List Value} {t : TypeId} {w : World} {g n : Nat} {l : List α} {f : α} (h : Amp c z t w g l f) (hc : ∀ y, (c y).length = n) (k j : Nat) (hk : k < 2) (hj : j < n) : w.cell? ⟨g, (l.length + k) * n + j, none⟩ = (c f)[j]? := by
  have hle : (l.length + k) * n + j = l.length * n + (k * n + j) := by rw [Nat.add_mul, Nat.add_assoc]
  have hkn : k * n + j < 2 * n := by
    have : (k + 1) * n ≤ 2 * n := Nat.mul_le_mul_right _ hk
    rw [Nat.succ_mul] at this
    omega
  rw [cell_of_row _ _ _ _ _ _ h, List.getElem?_toArray, hle, List.append_assoc, List.getElem?_append_right (by rw [flat_length hc]; omega), flat_length hc, Nat.add_sub_cancel_left, List.getElem?_append_left (by rw [List.length_append, hc]; omega)]
  match k, hk with
  | 0, _ => rw [Nat.zero_mul, Nat.zero_add, List.getElem?_append_left (by rw [hc]; exact hj)]
  | 1, _ => rw [Nat.one_mul, List.getElem?_append_right (by rw [hc]; omega), hc, Nat.add_sub_cancel_left]
end Go.Proofs.YtpfmfigommmjiaaDoor
namespace Go.Proofs.YtpfmfigommmjiaaDoor
open Go.RowKit
section
variable {P : Program} {ops : Array Oper} {Q : Exit → Act → World → Prop} {md : Region.Mode} {S : World → Prop}
/-- A load of a long array comes up first. -/
theorem take_row {fuel : Nat} {listed : Array Bool} {l : List Value} {df : List Deferred} {w : World} (i : Nat) {oi : Oper} {d : Nat} {ty : TypeId} {x : Operand} {b o : Nat} {cs : List Value} {ds : TypeDesc}
    (hi : ops[i]? = some oi) (hs : Region.noSelect ops = true) (hf : Region.free md ops listed i = true) (hr : (Region.ready md ops listed).contains i = true)
    (hQ : ∀ c a w v, Q (.panic c) (a.put oi.dst v) w → Q (.panic c) a w)
    (hw : Region.wanted oi (yielded ops l.toArray) = true) (hd : oi.dst = some d) (ho : oi.op = .load ty x) (hx : (Act.mk l.toArray df).eval x = .pointer (some ⟨b, o, none⟩))
    (hS' : ∀ w, S w → w.rangeAt b o cs) (hu : P.underlying ty = some ds) (hrow : ds.isRow = true) (hsz : (P.info? ty).map (·.size) = some cs.length) (hS : S w)
    (h : wpAnyH P md ops Q S fuel (listed.setIfInBounds i true) ⟨(l.set d (.agg cs.toArray)).toArray, df⟩ w) : wpAnyH P md ops Q S (fuel + 1) listed ⟨l.toArray, df⟩ w := by
  refine wpAnyH_take (i := i) (oi := oi) (v := .agg cs.toArray) hi hs hf hr (fun c a w => hQ c a w _) (yieldsIf_load_mid hw ty x ho b o hx cs ds hS' hu hrow hsz) hS ?_
  simpa only [hd, Act.put, List.setIfInBounds_toArray] using h
/-- An operation that is not wanted comes up first. -/
theorem take_not {fuel : Nat} {listed : Array Bool} {l : List Value} {df : List Deferred} {w : World} (i : Nat) {oi : Oper} {d : Nat}
    (hi : ops[i]? = some oi) (hs : Region.noSelect ops = true) (hf : Region.free md ops listed i = true) (hr : (Region.ready md ops listed).contains i = true)
    (hQ : ∀ c a w v, Q (.panic c) (a.put oi.dst v) w → Q (.panic c) a w)
    (hw : Region.wanted oi (yielded ops l.toArray) = false) (hd : oi.dst = some d) (hS : S w)
    (h : wpAnyH P md ops Q S fuel (listed.setIfInBounds i true) ⟨(l.set d undef).toArray, df⟩ w) : wpAnyH P md ops Q S (fuel + 1) listed ⟨l.toArray, df⟩ w := by
  refine wpAnyH_take (i := i) (oi := oi) (v := undef) hi hs hf hr (fun c a w => hQ c a w _) (Or.inr ⟨hw, rfl⟩) hS ?_
  simpa only [hd, Act.put, List.setIfInBounds_toArray] using h
/-- An operation whose value is the same in every world comes up first. -/
theorem take_val {fuel : Nat} {listed : Array Bool} {l : List Value} {df : List Deferred} {w : World} (i : Nat) {oi : Oper} {d : Nat} (v : Value)
    (hi : ops[i]? = some oi) (hs : Region.noSelect ops = true) (hf : Region.free md ops listed i = true) (hr : (Region.ready md ops listed).contains i = true)
    (hQ : ∀ c a w v, Q (.panic c) (a.put oi.dst v) w → Q (.panic c) a w)
    (hw : Region.wanted oi (yielded ops l.toArray) = true) (hd : oi.dst = some d) (hv : ∀ w, S w → (execOp (Act.mk l.toArray df).eval oi).run P w = .ok (.value v) w) (hS : S w)
    (h : wpAnyH P md ops Q S fuel (listed.setIfInBounds i true) ⟨(l.set d v).toArray, df⟩ w) : wpAnyH P md ops Q S (fuel + 1) listed ⟨l.toArray, df⟩ w := by
  refine wpAnyH_take (i := i) (oi := oi) (v := v) hi hs hf hr (fun c a w => hQ c a w _) (Or.inl ⟨hw, hv⟩) hS ?_
  simpa only [hd, Act.put, List.setIfInBounds_toArray] using h
/-- One operation alone is ready. -/
theorem one_ready {fuel : Nat} {listed : Array Bool} {a : Act} {w : World} (i : Nat) {o : Oper} (hr : Region.ready md ops listed = [i]) (ho : ops[i]? = some o)
    (hw : Region.wanted o (yielded ops a.tmps) = true)
    (h : ∀ K' : Act → World → Prop, Hid (∀ a w, S w → wpAnyH P md ops Q S fuel (listed.setIfInBounds i true) a w → K' a w) → Oper.wp P o a w K' Q) : wpAnyH P md ops Q S (fuel + 1) listed a w := by
  refine wpAnyH_ready hr (by simp) (AllReadyH.cons ho (fun K hK => ?_) AllReadyH.nil)
  rw [if_pos hw]
  exact h K (Lib.hid fun a w hS hx => hK.out a w hS fun _ => hx)
/-- Two operations are ready. -/
theorem two_ready {fuel : Nat} {listed : Array Bool} {a : Act} {w : World} (i j : Nat) {o p : Oper} (hr : Region.ready md ops listed = [i, j]) (ho : ops[i]? = some o) (hp : ops[j]? = some p)
    (hw : Region.wanted o (yielded ops a.tmps) = true) (hw2 : Region.wanted p (yielded ops a.tmps) = true)
    (h : ∀ K' : Act → World → Prop, Hid (∀ a w, S w → wpAnyH P md ops Q S fuel (listed.setIfInBounds i true) a w → K' a w) → Oper.wp P o a w K' Q)
    (h2 : ∀ K' : Act → World → Prop, Hid (∀ a w, S w → wpAnyH P md ops Q S fuel (listed.setIfInBounds j true) a w → K' a w) → Oper.wp P p a w K' Q) : wpAnyH P md ops Q S (fuel + 1) listed a w := by
  refine wpAnyH_ready hr (by simp) (AllReadyH.cons ho (fun K hK => ?_) (AllReadyH.cons hp (fun K hK => ?_) AllReadyH.nil))
  · rw [if_pos hw]
    exact h K (Lib.hid fun a w hS hx => hK.out a w hS fun _ => hx)
  · rw [if_pos hw2]
    exact h2 K (Lib.hid fun a w hS hx => hK.out a w hS fun _ => hx)
/-- What an operation that yields a value leaves to be shown. -/
theorem put_eq {l : List Value} {df : List Deferred} {o : Oper} {d : Nat} {v : Value} (hd : o.dst = some d) : (Act.mk l.toArray df).put o.dst v = ⟨(l.set d v).toArray, df⟩ := by
  simp only [hd, Act.put, List.setIfInBounds_toArray]
end
end Go.Proofs.YtpfmfigommmjiaaDoor
namespace Go.Proofs.YtpfmfigommmjiaaDoor
open Go.RowKit
theorem setCells_frame (b : Nat) : ∀ (vs : List Value) (o : Nat) (w : World), w.setCells b o vs = { w with heap := (w.setCells b o vs).heap } ∧ (w.setCells b o vs).heap.size = w.heap.size
  | [], _, _ => ⟨rfl, rfl⟩
  | v :: r, o, w => by
    obtain ⟨h, h2⟩ := setCells_frame b r (o + 1) (w.setCell ⟨b, o, none⟩ v)
    refine ⟨h, ?_⟩
    show ((w.setCell ⟨b, o, none⟩ v).setCells b (o + 1) r).heap.size = _
    rw [h2]
    simp [World.setCell]
theorem setCells_full {w : World} {b : Nat} {t : TypeId} {Z : Array Value} (hz : w.heap[b]? = some (.cells Z t (0, 0))) (cs : Array Value) (h : cs.size = Z.size) :
    (w.setCells b 0 cs.toList).heap[b]? = some (.cells cs t (0, 0)) := by
  obtain ⟨cs', h2, h3, h4⟩ := heap_setCells b t cs.toList 0 w Z hz
  rw [h2]
  congr 2
  apply Array.ext_getElem?
  intro i
  rw [h4]
  by_cases hi : i < Z.size
  · rw [if_pos ⟨Nat.zero_le _, by rw [Array.length_toList]; omega, hi⟩]
    simp
  · rw [if_neg (fun hc => hi hc.2.2)]
    rw [Array.getElem?_eq_none (by omega), Array.getElem?_eq_none (by omega)]
theorem alloc_setCells (w : World) (ty : TypeId) (Z cs : Array Value) (h : cs.size = Z.size) : (w.alloc (.cells Z ty)).setCells w.heap.size 0 cs.toList = w.alloc (.cells cs ty) := by
  obtain ⟨e, es⟩ := setCells_frame w.heap.size cs.toList 0 (w.alloc (.cells Z ty))
  have hf := setCells_full (heap_alloc_new w (.cells Z ty)) cs h
  have ho := fun k hk => heap_setCells_other w.heap.size k hk cs.toList 0 (w.alloc (.cells Z ty))
  generalize ((w.alloc (.cells Z ty)).setCells w.heap.size 0 cs.toList) = w2 at *
  have hh : w2.heap = (w.alloc (.cells cs ty)).heap := by
    apply Array.ext_getElem?
    intro k
    by_cases hk : k = w.heap.size
    · subst hk
      rw [hf]
      exact (heap_alloc_new w (.cells cs ty)).symm
    · rw [ho k hk]
      show (w.heap.push _)[k]? = (w.heap.push _)[k]?
      rw [Array.getElem?_push, Array.getElem?_push, if_neg (by omega), if_neg (by omega)]
  rw [e, hh]
  rfl
/-- The arm for the store: the block was the last one made. -/
theorem wpList_store_new {P : Program} {ops : Array Oper} {rest : List Oper} {op : Oper} {a : Act} {w : World} {Q : Exit → Act → World → Prop} {Z : Array Value} {bt : TypeId} (hgd : op.guard = none) (ty : TypeId) (x y : Operand) (ho : op.op = .store ty x y)
    (n : Nat) (cells : Array Value) (hx : a.eval x = .pointer (some ⟨n, 0, none⟩)) (hy : a.eval y = .agg cells)
    (hz : cells.size = Z.size) (hi : (P.info? ty).map (·.size) = some cells.size) (h1 : cells.all (·.oneCell') = true) (hn : n = w.heap.size)
    (h : wpList P ops Q rest (a.put op.dst undef) (w.alloc (.cells cells bt))) : wpList P ops Q (op :: rest) a (w.alloc (.cells Z bt)) := by
  subst hn
  refine wpList_store_mid hgd ty x y ho w.heap.size 0 cells hx hy ?_ hi h1 ?_
  · intro j hj
    rw [Nat.zero_add]
    have hb := heap_alloc_new w (.cells Z bt)
    refine ⟨?_, frozen_of_row _ _ _ _ _ hb⟩
    rw [cell_of_row _ _ _ _ _ _ hb, Array.getElem?_eq_getElem (by omega)]
    rfl
  · rw [alloc_setCells w bt Z cells hz]
    exact h
theorem bC_one (l : List Nat) : ((l.map bV).toArray).all (·.oneCell') = true := by
  apply Array.all_eq_true_iff_forall_mem.2
  intro v hv
  simp only [List.mem_toArray, List.mem_map] at hv
  obtain ⟨n, _, rfl⟩ := hv
  rfl
end Go.Proofs.YtpfmfigommmjiaaDoor
namespace Go.Proofs.YtpfmfigommmjiaaDoor
open Go.RowKit
theorem own_formK {w : World} {base : Nat} {e : TypeId} {k : Nat} {v : Value} {n : Nat} {xs : List Value} (h : w.ownsRow base e k v n xs) : ∃ a c, v = .slice a n c := by
  rcases h.2 with ⟨hv, h3⟩ | ⟨g, cap, cur, hv, _⟩
  · exact ⟨none, 0, by rw [hv, h3]⟩
  · exact ⟨_, _, hv⟩
theorem own_belowK {w w' : World} {base : Nat} {e : TypeId} {k : Nat} {v : Value} {n : Nat} {xs : List Value} (h : w.ownsRow base e k v n xs) (hb : Below w.heap.size w w') : w'.ownsRow base e k v n xs := by
  refine ⟨h.1, ?_⟩
  rcases h.2 with hv | ⟨g, cap, cur, hv, hB, hg, h3⟩
  · exact .inl hv
  · exact .inr ⟨g, cap, cur, hv, hB, (hb.block g (lt_of_block hg)).trans hg, h3⟩
end Go.Proofs.YtpfmfigommmjiaaDoor
namespace Go.Proofs.YtpfmfigommmjiaaDoor
open Go.RowKit
set_option linter.unusedVariables false
set_option linter.unusedSimpArgs false
def AmEnd {α : Type} (c : α → List Value) (z : List Value) (t : TypeId) (l : List α) (f : α) (w0 : World) (e : Ending) (w : World) : Prop := ∃ g, e = .returned (.slice (some ⟨g, 0, none⟩) l.length (l.length + 3)) ∧ w0.heap.size ≤ g ∧ Amp c z t w g l f ∧ Below w0.heap.size w0 w
def SpEnd (g : Nat) (t : TypeId) (n : Nat) (w0 : World) (e : Ending) (w : World) : Prop := e = .returned (.tuple #[]) ∧ w0.grownBy w (some g) ∧ ∃ cs, w.heap[g]? = some (.cells cs t (0, 0)) ∧ cs.size = n
theorem grown_set {w0 w : World} {g : Nat} (h : w0.grownBy w (some g)) (i : Nat) (v : Value) : w0.grownBy (w.setCell ⟨g, i, none⟩ v) (some g) := by
  refine ⟨h.os, h.tape, h.output, ?_, fun k hk hne => ?_⟩
  · have : (w.setCell ⟨g, i, none⟩ v).heap.size = w.heap.size := by simp [World.setCell]
    rw [this]; exact h.size
  · rw [heap_setCell_other w ⟨g, i, none⟩ k v (fun e => hne (by rw [e]))]
    exact h.block k hk hne
theorem grown_refl (w : World) (r : Option Nat) : w.grownBy w r := ⟨rfl, rfl, rfl, Nat.le_refl _, fun _ _ _ => rfl⟩
theorem wp_append_roomK {P : Program} {w : World} {o : Oper} {a : Act} {K : Act → World → Prop} {Q : Exit → Act → World → Prop} (s x : Operand) (t tx : TypeId) (hop : o.op = Op.call { callee := Callee.builtin Builtin.append, args := #[s, x], argTypes := #[t, tx] })
    (e : TypeId) (i : TypeInfo) (size : Nat) (ht : P.underlying t = some (.slice e)) (hi : P.info? e = some i) (hsz : i.size = size)
    (b off sLen sCap : Nat) (hs : a.eval s = .slice (some ⟨b, off, none⟩) sLen sCap) (xv : Value) (hx : a.eval x = xv) (n : Nat) (news : List Value) (hsrc : Src P size tx xv n news w)
    (hroom : sLen + n ≤ sCap) (hc : ∀ j, j < news.length → (w.cell? ⟨b, off + sLen * size + j, none⟩).isSome = true) (hf : ∀ j, j < news.length → w.frozen? ⟨b, off + sLen * size + j, none⟩ = false)
    (hK : K (a.put o.dst (.slice (some ⟨b, off, none⟩) (sLen + n) sCap)) (w.setCells b (off + sLen * size) news)) : o.wp P a w K Q := by
  subst hsz
  have hrun := run_append_room_src (P := P) (w := w) t tx o.type e i ht hi b off sLen sCap xv n news hsrc hroom hc hf
  unfold Oper.wp
  simp [execOp, hop, resolve, invoke, builtin, hs, hx, hrun, Result.andThen]
  exact hK
theorem cells_of {w : World} {b : Nat} {t : TypeId} {cs : Array Value} (h : w.heap[b]? = some (.cells cs t (0, 0))) (news : List Value) (hn : news = cs.toList) : ∀ (j : Nat) (u : Value), news[j]? = some u → w.cell? ((⟨b, 0, none⟩ : Addr).add j) = some u := by
  intro j u hj
  subst hn
  rw [Addr.add_lit, Nat.zero_add, cell_of_row _ _ _ _ _ _ h]
  simpa using hj
/-- the row made, filled, and what is filled in at its end -/
theorem amp_steps {α : Type} {n : Nat} {c : α → List Value} (hc : ∀ y, (c y).length = n) {t : TypeId} {z : α} {l : List α} {f : α} {B : Nat} {u : World} (h : u.heap[B]? = some (.cells ((List.replicate (l.length + 3) z).flatMap c).toArray t (0, 0))) :
    (∀ j, j < (l.flatMap c).length → (u.cell? ⟨B, 0 + 0 * n + j, none⟩).isSome = true) ∧ (∀ j, j < (l.flatMap c).length → u.frozen? ⟨B, 0 + 0 * n + j, none⟩ = false) ∧
    (u.setCells B (0 + 0 * n) (l.flatMap c)).heap[B]? = some (.cells (l.flatMap c ++ (List.replicate 3 z).flatMap c).toArray t (0, 0)) := by
  have hfl : (l.flatMap c).length = l.length * n := flat_length hc l
  have e : (List.replicate (l.length + 3) z).flatMap c = [] ++ (List.replicate l.length z).flatMap c ++ (List.replicate 3 z).flatMap c := by
    rw [List.nil_append, ← List.flatMap_append, List.replicate_append_replicate]
  have hz : ((List.replicate (l.length + 3) z).flatMap c).length = (l.length + 3) * n := by rw [flat_length hc, List.length_replicate]
  have hi := row_is h 0 (l.length * n) (by rw [List.size_toArray, hz, Nat.add_mul]; omega)
  refine ⟨fun j hj => ?_, fun j hj => ?_, ?_⟩
  · rw [Nat.zero_mul, Nat.add_zero]; exact hi.1 j (by omega)
  · rw [Nat.zero_mul, Nat.add_zero]; exact hi.2 j (by omega)
  · rw [e] at h
    have := row_mid [] _ _ (l.flatMap c) h (by rw [hfl, flat_length hc, List.length_replicate])
    rw [Nat.zero_mul]
    simpa using this
theorem amp_steps2 {α : Type} {n : Nat} {c : α → List Value} (hc : ∀ y, (c y).length = n) {t : TypeId} {z : α} {l : List α} {f : α} {B : Nat} {u : World} (h : u.heap[B]? = some (.cells (l.flatMap c ++ (List.replicate 3 z).flatMap c).toArray t (0, 0))) :
    (∀ j, j < (c f ++ c f).length → (u.cell? ⟨B, 0 + (0 + l.length) * n + j, none⟩).isSome = true) ∧ (∀ j, j < (c f ++ c f).length → u.frozen? ⟨B, 0 + (0 + l.length) * n + j, none⟩ = false) ∧
    Amp c (c z) t (u.setCells B (0 + (0 + l.length) * n) (c f ++ c f)) B l f := by
  have hfl : (l.flatMap c).length = l.length * n := flat_length hc l
  have h2 : (c f ++ c f).length = 2 * n := by rw [List.length_append, hc]; omega
  have hi := row_is h (l.length * n) (2 * n) (by rw [List.size_toArray, List.length_append, hfl, flat_length hc, List.length_replicate]; omega)
  have e : (List.replicate 3 z).flatMap c = (c z ++ c z) ++ c z := by simp [List.replicate]
  rw [h2]
  refine ⟨fun j hj => ?_, fun j hj => ?_, ?_⟩
  · rw [Nat.zero_add, Nat.zero_add]; exact hi.1 j hj
  · rw [Nat.zero_add, Nat.zero_add]; exact hi.2 j hj
  · rw [e, ← List.append_assoc] at h
    have := row_mid (l.flatMap c) (c z ++ c z) (c z) (c f ++ c f) h (by simp [hc])
    rw [hfl] at this
    unfold Amp
    rw [Nat.zero_add, Nat.zero_add]
    exact this
theorem grown_setCells {w0 w : World} {g : Nat} (h : w0.grownBy w (some g)) (o : Nat) (vs : List Value) : w0.grownBy (w.setCells g o vs) (some g) := by
  have hf := setCells_frame g vs o w
  refine ⟨?_, ?_, ?_, ?_, fun k hk hne => ?_⟩
  · rw [hf.1]; exact h.os
  · rw [hf.1]; exact h.tape
  · rw [hf.1]; exact h.output
  · rw [hf.2]; exact h.size
  · rw [heap_setCells_other g k (fun e => hne (by rw [e])) vs o w]
    exact h.block k hk hne
theorem there_rowO {w : World} {b : Nat} {t : TypeId} {cs : Array Value} (h : w.heap[b]? = some (.cells cs t (0, 0))) (o n : Nat) (hn : o + n ≤ cs.size) : w.there b o n := fun j hj => by
  refine ⟨?_, frozen_of_row _ _ _ _ _ h⟩
  rw [cell_of_row _ _ _ _ _ _ h, Array.getElem?_eq_getElem (by omega)]
  rfl
theorem row_rangeA {w : World} {b : Nat} {t : TypeId} {cs : Array Value} (h : w.heap[b]? = some (.cells cs t (0, 0))) : w.rangeAt b 0 cs.toList := fun j v hj => by
  rw [Nat.zero_add, cell_of_row _ _ _ _ _ _ h]
  simpa using hj
theorem made_flat {α : Type} {n : Nat} {c : α → List Value} (hc : ∀ y, (c y).length = n) (hn : 0 < n) (z : α) (m : Nat) : madeCells (c z).toArray (m * n) = ((List.replicate m z).flatMap c).toArray := by
  apply Array.ext_getElem?
  intro k
  have hl : (List.replicate m z).length = m := List.length_replicate
  by_cases hk : k < m * n
  · have hm : k / n < (List.replicate m z).length := by rw [hl]; exact Nat.div_lt_of_lt_mul (by rw [Nat.mul_comm]; exact hk)
    have hj : k % n < n := Nat.mod_lt _ hn
    have h1 := flat_get hc (List.replicate m z) (k / n) (k % n) hm hj
    have hd : k / n * n + k % n = k := by rw [Nat.mul_comm]; exact Nat.div_add_mod k n
    rw [hd, List.getElem_replicate] at h1
    have hR : (((List.replicate m z).flatMap c).toArray)[k]? = (c z)[k % n]? := by rw [List.getElem?_toArray, h1]
    rw [hR]
    have hs : (c z).toArray.size = n := by simp [hc]
    have hj' : k % n < (c z).length := by rw [hc]; exact hj
    simp only [madeCells, Array.getElem?_map, Array.getElem?_range, hk, if_true, Option.map_some, hs]
    rw [List.getElem?_eq_getElem hj', getElem!_pos (c z).toArray (k % n) (by simpa using hj')]
    simp
  · have hR : (((List.replicate m z).flatMap c).toArray)[k]? = none := by rw [List.getElem?_toArray, List.getElem?_eq_none (by rw [flat_length hc, hl]; omega)]
    rw [hR, Array.getElem?_eq_none (by rw [size_madeCells]; omega)]
/-- a call comes up, alone -/
theorem take_call {P : Program} {ops : Array Oper} {Q : Exit → Act → World → Prop} {md : Region.Mode} {S : World → Prop} {fuel : Nat} {listed : Array Bool} {l : List Value} {df : List Deferred} {w : World} (i : Nat) {oi : Oper} {d : Nat} {f : FuncId} {args : Array Value} (v : Value)
    (hr : Region.ready md ops listed = [i]) (hi : ops[i]? = some oi) (hw : Region.wanted oi (yielded ops l.toArray) = true) (hd : oi.dst = some d)
    (he : (execOp (Act.mk l.toArray df).eval oi).run P w = .ok (.enter f args) w) (hc : Calls P f args w fun e w' => e = .returned v ∧ S w')
    (h : ∀ w', S w' → wpAnyH P md ops Q S fuel (listed.setIfInBounds i true) ⟨(l.set d v).toArray, df⟩ w') : wpAnyH P md ops Q S (fuel + 1) listed ⟨l.toArray, df⟩ w := by
  refine one_ready i hr hi hw (fun K' hK => ?_)
  unfold Oper.wp
  rw [he]
  refine Calls.mono hc ?_
  rintro e w' ⟨rfl, h1⟩
  refine hK.out _ _ h1 ?_
  have h2 := h w' h1
  simpa only [hd, Act.put, List.setIfInBounds_toArray] using h2
end Go.Proofs.YtpfmfigommmjiaaDoor
