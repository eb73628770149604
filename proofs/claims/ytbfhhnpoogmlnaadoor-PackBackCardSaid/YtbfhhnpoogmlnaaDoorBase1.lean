/- Joined: Slices, AppendSat, AmpleBase, OwnForm, AmpleGen, Grown. -/
import Derived.WalkKit
import Derived.ProofKit
import Derived.OpenShut
import Derived.SizedLaws
import Derived.Lib.Hide
import Derived.Deep.MidRow
import Derived.Deep.Slices
import Derived.Deep.Fields
import Derived.ChangeSame
import Derived.Laws.OwnMore
import Derived.Test.YtbfhhnpoogmlnaaDoorBase0
import Derived.Deep.RegionHeld3
import Derived.Lib.JoinLaws
import Derived.Laws.MakeOwn
namespace Go.Proofs.YtbfhhnpoogmlnaaDoor
open Go.RowKit Go.ChangeShapes Go.WideShapes Go.ChangeAt
/-- the elements of l lie at a, n cells each -/
def SAt {α : Type} (n : Nat) (c : α → List Value) (w : World) (a : Option Addr) (l : List α) : Prop :=
  ∀ i (h : i < l.length), ∃ g off, a = some ⟨g, off, none⟩ ∧ g < w.heap.size ∧ w.rangeAt g (off + i * n) (c l[i])
section
variable {α : Type} {n : Nat} {c : α → List Value} {w w' : World} {a : Option Addr} {l : List α}
theorem SAt.nil : SAt n c w a ([] : List α) := fun i h => absurd h (by simp)
theorem SAt.below (h : SAt n c w a l) (hb : Below w.heap.size w w') : SAt n c w' a l := fun i hi => by
  obtain ⟨g, off, e, hg, hr⟩ := h i hi
  exact ⟨g, off, e, Nat.lt_of_lt_of_le hg hb.size, fun j u hu => (hb.cell (p := ⟨g, off + i * n + j, none⟩) hg).trans (hr j u hu)⟩
theorem SAt.drew (h : SAt n c w a l) : SAt n c w.drew a l := h
/-- one element of a row of cells -/
theorem flat_get (hc : ∀ y, (c y).length = n) : ∀ (l : List α) (i j : Nat) (h : i < l.length), j < n → (l.flatMap c)[i * n + j]? = (c l[i])[j]?
  | [], i, j, h, _ => by cases h
  | p :: l, 0, j, h, hj => by
    rw [List.flatMap_cons, List.getElem?_append_left (by rw [hc]; omega)]
    simp
  | p :: l, i + 1, j, h, hj => by
    rw [List.flatMap_cons, List.getElem?_append_right (by rw [hc, Nat.succ_mul]; omega), hc]
    have := flat_get hc l i j (by simpa using h) hj
    rw [show (i + 1) * n + j - n = i * n + j by rw [Nat.succ_mul]; omega, this]
    rfl
theorem flat_length (hc : ∀ y, (c y).length = n) : ∀ l : List α, (l.flatMap c).length = l.length * n
  | [] => by simp
  | p :: l => by rw [List.flatMap_cons, List.length_append, hc, flat_length hc l, List.length_cons, Nat.succ_mul]; omega
/-- a row of the call's own read as a list -/
theorem SAt.own {base : Nat} {t : TypeId} {v : Value} (h : w.ownsRow base t n v l.length (l.flatMap c)) (hc : ∀ y, (c y).length = n) :
    ∃ a cap, v = .slice a l.length cap ∧ l.length ≤ cap ∧ cap ≤ 9223372036854775807 ∧ SAt n c w a l := by
  obtain ⟨_, h2⟩ := h
  rcases h2 with ⟨hv, h3⟩ | ⟨g, cap, cur, hv, hb, hg, h3, h4, h5, h6⟩
  · refine ⟨none, 0, by rw [hv, h3], by omega, by omega, fun i hi => by omega⟩
  · refine ⟨_, cap, hv, h3, by unfold maxLen at h4; exact h4, fun i hi => ⟨g, 0, rfl, lt_of_block hg, fun j u hu => ?_⟩⟩
    have hj : j < n := by
      rcases Nat.lt_or_ge j n with h | h
      · exact h
      · rw [List.getElem?_eq_none (by rw [hc]; exact h)] at hu; cases hu
    have hlt : i * n + j < l.length * n := by
      have : (i + 1) * n ≤ l.length * n := Nat.mul_le_mul_right _ hi
      rw [Nat.succ_mul] at this
      omega
    rw [Nat.zero_add, cell_of_row _ _ _ _ _ _ hg, ← hu, ← flat_get hc l i j hi hj, ← h6, List.getElem?_take, if_pos hlt]
    simp
/-- a slice that is read, opened -/
theorem SAt.trod {H : Type} {P : Program} {enc : TypeId × Value → H} {base : Nat} {sp : Nat → Bool} {held : Bool} {t e : TypeId} (Pr : α → Prop) (ht : P.underlying t = some (.slice e)) (hC : P.cellsOf e = n) (hn : 0 < n) (hc : ∀ y, (c y).length = n)
    (hread : ∀ fuel cs x, DataW.trod enc P w base sp held fuel e cs = some x → ∃ y, cs = c y ∧ Pr y) {fuel : Nat} {vs : List Value} {d : DataW H × List MemPlace} (hf : DataW.trod enc P w base sp held fuel t vs = some d) :
    ∃ (a : Option Addr) (l : List α) (cap : Nat), vs = [.slice a l.length cap] ∧ l.length ≤ cap ∧ cap ≤ 9223372036854775807 ∧ (∀ y ∈ l, Pr y) ∧ SAt n c w a l ∧ (l = [] ∨ ∃ elems spare, d.1 = .slice elems spare ∧ elems.length = l.length) := by
  rcases Go.Deep.open_slice ht hf with ⟨hcs, _⟩ | ⟨a', len, cap, m, k, D, Pl, hcs, _, hl, hm, hmm, hxd, hx⟩
  · subst hcs
    exact ⟨none, [], 0, rfl, by simp, by simp, by simp, SAt.nil, .inl rfl⟩
  · subst hcs
    have hlm : len ≤ m := by rw [hmm]; split <;> omega
    have hall : ∀ i, i < len → ∃ y : α, Pr y ∧ ∀ j, j < n → w.cell? ((a'.add (i * n)).add j) = (c y)[j]? := by
      intro i hi
      obtain ⟨cs', h1, h2⟩ := hx i (by omega)
      rw [hC] at h1
      obtain ⟨y, rfl, hy⟩ := hread _ _ _ h2
      obtain ⟨_, _, hcl⟩ := World.cells?_some h1
      exact ⟨y, hy, hcl⟩
    by_cases h0 : len = 0
    · subst h0
      exact ⟨some a', [], cap, rfl, by simp, by unfold maxLen at hm; exact hm, by simp, SAt.nil, .inl rfl⟩
    · have : Inhabited α := ⟨(hall 0 (by omega)).choose⟩
      obtain ⟨f, hf'⟩ := Go.Deep.choose_lt hall
      have hget : ∀ k (h : k < ((List.range len).map f).length), ((List.range len).map f)[k] = f k := by intro k h; simp
      refine ⟨some a', (List.range len).map f, cap, by simp, by simpa using hl, by unfold maxLen at hm; exact hm, ?_, ?_, .inr ⟨_, _, by rw [hxd], by simp⟩⟩
      · intro y hy
        simp only [List.mem_map, List.mem_range] at hy
        obtain ⟨i, hi, rfl⟩ := hy
        exact (hf' i hi).1
      · obtain ⟨b, off, spt⟩ := a'
        have hcell := fun i (hi : i < len) j (hj : j < n) => (hf' i hi).2 j hj
        simp only [Go.Deep.add_add] at hcell
        have h00 := hcell 0 (by omega) 0 hn
        rw [List.getElem?_eq_getElem (show 0 < (c (f 0)).length by rw [hc]; exact hn)] at h00
        have hspt : spt = none := by simpa [Addr.add] using World.cell?_spot h00
        subst hspt
        have hbl := World.block_lt_of_cell? _ _ h00
        intro k hk
        refine ⟨b, off, rfl, by simpa [Addr.add] using hbl, ?_⟩
        rw [hget k hk]
        intro j u hu
        have hk' : k < len := by simpa using hk
        have hj : j < n := by
          rcases Nat.lt_or_ge j n with h | h
          · exact h
          · rw [List.getElem?_eq_none (by rw [hc]; exact h)] at hu; cases hu
        have := hcell k hk' j hj
        rw [hu] at this
        rw [← this]
        congr 1
        unfold Addr.add
        split
        · rename_i h0'
          obtain rfl : j = 0 := by omega
          simp
        · simp [Nat.add_assoc]
/-- an argument opened -/
theorem SAt.open_ {H : Type} {P : Program} {enc : TypeId × Value → H} {r : Reach} {base b0 : Nat} {sp : Nat → Bool} {held : Bool} {t e : TypeId} {v : Value} {d : DataW H} {p : List MemPlace} (Pr : α → Prop) (ht : P.underlying t = some (.slice e)) (hC : P.cellsOf e = n) (hn : 0 < n) (hc : ∀ y, (c y).length = n)
    (hread : ∀ fuel cs x, DataW.trod enc P w base sp held fuel e cs = some x → ∃ y, cs = c y ∧ Pr y) (ho : Value.okWide P w r b0 t v) (hd : DataW.Trod enc P w base sp held t v d p) :
    ∃ (a : Option Addr) (l : List α) (cap : Nat), v = .slice a l.length cap ∧ l.length ≤ cap ∧ cap ≤ 9223372036854775807 ∧ (∀ y ∈ l, Pr y) ∧ SAt n c w a l ∧ (l = [] ∨ ∃ elems spare, d = .slice elems spare ∧ elems.length = l.length) := by
  obtain ⟨a, len, cap, rfl⟩ := okWide_slice ht ho
  obtain ⟨fuel, hf⟩ := hd
  obtain ⟨a', l, cap', hv, h1, h2, h3, h4, h5⟩ := SAt.trod Pr ht hC hn hc hread hf
  simp only [Value.cells, List.cons.injEq, and_true] at hv
  exact ⟨a', l, cap', hv, h1, h2, h3, h4, h5⟩
end
/-- the fields of a struct, a cell each -/
theorem trod_fields {H : Type} {P : Program} {enc : TypeId × Value → H} {w : World} {base : Nat} {sp : Nat → Bool} {held : Bool} {e : TypeId} {fs : Array Field} {fuel : Nat} {cs : List Value} {x : DataW H × List MemPlace}
    (he : P.underlying e = some (.struct fs)) (hone : Go.Deep.oneCellFields P fs = true) (hC : P.cellsOf e = fs.size) (h : DataW.trod enc P w base sp held fuel e cs = some x) :
    cs.length = fs.size ∧ ∀ (j : Nat) (f : Field), fs[j]? = some f → ∃ (u : Value) (m : Nat) (y : DataW H × List MemPlace), cs[j]? = some u ∧ DataW.trod enc P w base sp held m f.type [u] = some y := by
  obtain ⟨ys, m, _, _, hlen, hyl, hf⟩ := DataW.trod_struct he h
  refine ⟨hlen.trans hC, fun j f hj => ?_⟩
  obtain ⟨ho, hk⟩ := Go.Deep.hone_of hone j f hj
  have hjl : j < fs.size := (Array.getElem?_eq_some_iff.1 hj).1
  have hjc : j < cs.length := by omega
  have h1 := hf j f hj
  rw [ho, hk, List.drop_eq_getElem_cons hjc] at h1
  have hys : ys[j]? = some (ys[j]'(by omega)) := List.getElem?_eq_getElem (by omega)
  rw [hys] at h1
  exact ⟨cs[j], m, _, List.getElem?_eq_getElem hjc, h1⟩
end Go.Proofs.YtbfhhnpoogmlnaaDoor
namespace Go.Proofs.YtbfhhnpoogmlnaaDoor
open Go.RowKit
section
variable {P : Program} {w : World}
theorem run_append_nil (base : Nat) (t ty e : TypeId) (i : TypeInfo) (size : Nat) (ht : P.underlying t = some (.slice e)) (hi : P.info? e = some i)
    (v : Value) (n : Nat) (xs : List Value) (hown : w.ownsRow base e size v n xs) (c : Nat) : (Builtin.append_ #[t, t] ty #[v, .slice none 0 c]).run P w = .ok v w := by
  rcases hown.2 with ⟨rfl, rfl⟩ | ⟨g, cap, cur, rfl, _, _, hnc, _⟩
  · simp [Builtin.append_, run_underlying ht, sizeOf, typeInfo, hi, Builtin.lenOf, Builtin.firstCells]
  · simp [Builtin.append_, run_underlying ht, sizeOf, typeInfo, hi, Builtin.lenOf, Builtin.firstCells, hnc, storeCells]
theorem sat_cells {α : Type} {size : Nat} {cf : α → List Value} {g off : Nat} {l : List α} (hsz : 0 < size) (hc : ∀ y, (cf y).length = size) (h : SAt size cf w (some ⟨g, off, none⟩) l) : ∀ j u, (l.flatMap cf)[j]? = some u → w.cell? ((⟨g, off, none⟩ : Addr).add j) = some u := by
  intro j u hu
  have hj : j < l.length * size := by
    rcases Nat.lt_or_ge j (l.length * size) with h | h
    · exact h
    · rw [List.getElem?_eq_none (by rw [flat_length hc]; exact h)] at hu; cases hu
  have hi : j / size < l.length := (Nat.div_lt_iff_lt_mul hsz).2 hj
  have hr : j % size < size := Nat.mod_lt _ hsz
  have hd : j / size * size + j % size = j := by rw [Nat.mul_comm]; exact Nat.div_add_mod j size
  obtain ⟨g', off', e, _, hcell⟩ := h (j / size) hi
  injection e with e
  injection e with e1 e2 _
  subst e1 e2
  rw [Addr.add_mid]
  have hu2 := hu
  rw [← hd, flat_get hc l (j / size) (j % size) hi hr] at hu2
  have := hcell (j % size) u hu2
  rwa [Nat.add_assoc, hd] at this
theorem wpList_append_sat {ops : Array Oper} {rest : List Oper} {o : Oper} {a : Act} {Q : Exit → Act → World → Prop} (hgd : o.guard = none) (s x : Operand) (t : TypeId)
    (ho : o.op = .call { callee := .builtin .append, args := #[s, x], argTypes := #[t, t] })
    (base : Nat) (e : TypeId) (i : TypeInfo) (z : Value) (size bytes : Nat) (ht : P.underlying t = some (.slice e)) (hi : P.info? e = some i) (hz : i.zero = some z)
    (hsize : i.size = size) (hby : i.bytes = bytes) (hzs : z.cells.size = size) (hsz : 0 < size)
    (v : Value) (n : Nat) (xs : List Value) (hs : a.eval s = v) (hown : w.ownsRow base e size v n xs)
    {α : Type} {cf : α → List Value} (A : Option Addr) (c : Nat) (l : List α) (hx : a.eval x = .slice A l.length c) (hl : SAt size cf w A l) (hc : ∀ y, (cf y).length = size) (h1 : ∀ y, ∀ u ∈ cf y, u.oneCell' = true)
    (h63 : n + l.length ≤ maxLen) (hbytes : (n + l.length) * bytes ≤ 140737488355328) (hbase : base ≤ w.heap.size)
    (h : ∀ v' w', w'.ownsRow base e size v' (n + l.length) (xs ++ l.flatMap cf) → w.grownBy w' v.ownBlock → wpList P ops Q rest (a.put o.dst v') w') : wpList P ops Q (o :: rest) a w := by
  rcases A with _ | ad
  · have hn : l = [] := by
      cases l with
      | nil => rfl
      | cons y l => obtain ⟨g, off, e, _⟩ := hl 0 (by simp); cases e
    subst hn
    refine wpList_plain hgd fun K hK => ?_
    have hrun := run_append_nil (P := P) (w := w) base t o.type e i size ht hi v n xs hown c
    unfold Oper.wp
    have hx' : a.eval x = .slice none 0 c := hx
    simp [execOp, ho, resolve, invoke, builtin, hs, hx', hrun, Result.andThen]
    exact hK _ _ (h v w (by simpa using hown) (World.grownBy.refl w _))
  · by_cases h0 : l = []
    · subst h0
      exact wpList_append_own w hgd s x t ho base e i z size bytes ht hi hz hsize hby hzs hsz v n xs hs hown ad 0 c [] hx (by simp) (by simp) (by simp) h63 hbytes hbase fun v' w' h2 h3 _ => h v' w' h2 h3
    · obtain ⟨g, off, e', _, _⟩ := hl 0 (List.length_pos_iff.2 h0)
      injection e' with e'
      subst e'
      exact wpList_append_own w hgd s x t ho base e i z size bytes ht hi hz hsize hby hzs hsz v n xs hs hown ⟨g, off, none⟩ l.length c (l.flatMap cf) hx (flat_length hc l) (sat_cells hsz hc hl) (fun u hu => by
        obtain ⟨y, _, hu⟩ := List.mem_flatMap.1 hu
        exact h1 y u hu) h63 hbytes hbase fun v' w' h2 h3 _ => h v' w' h2 h3
/-- an owned row cut at its end -/
theorem own_cut {base : Nat} {e : TypeId} {size n m c : Nat} {a : Option Addr} {xs : List Value} (h : w.ownsRow base e size (.slice a n c) n xs) (hm : m ≤ n) (ha : 0 < n) : w.ownsRow base e size (.slice a m c) m (xs.take (m * size)) := by
  obtain ⟨h1, h2⟩ := h
  rcases h2 with ⟨_, h3⟩ | ⟨g, cap, cur, hv, hb, hg, h3, h4, h5, h6⟩
  · omega
  · injection hv with hv1 _ hv3
    subst hv1 hv3
    have hle : m * size ≤ n * size := Nat.mul_le_mul_right _ hm
    refine ⟨by rw [List.length_take, h1]; exact Nat.min_eq_left hle, .inr ⟨g, c, cur, rfl, hb, hg, by omega, h4, h5, ?_⟩⟩
    rw [← h6, List.take_take, Nat.min_eq_left hle]
end
end Go.Proofs.YtbfhhnpoogmlnaaDoor
namespace Go.Proofs.YtbfhhnpoogmlnaaDoor
open Go.RowKit
set_option linter.unusedVariables false
theorem src_sat {α : Type} {P : Program} {size : Nat} {cf : α → List Value} {w : World} {a : Option Addr} {l : List α} {tx e : TypeId} (hk : P.underlying tx = some (.slice e)) (hsz : 0 < size) (hc : ∀ y, (cf y).length = size) (h1 : ∀ y, ∀ u ∈ cf y, u.oneCell' = true) (h : SAt size cf w a l) (c : Nat) : Src P size tx (.slice a l.length c) l.length (l.flatMap cf) w := by
  by_cases hl : l = []
  · subst hl
    cases a with
    | none => exact Src.ofNil w hk c
    | some ad => exact Src.ofSlice w hk ad 0 c [] (by simp) (by simp) (by simp)
  · obtain ⟨g, off, rfl, _⟩ := h 0 (by have := List.length_pos_iff.2 hl; omega)
    exact Src.ofSlice w hk ⟨g, off, none⟩ l.length c (l.flatMap cf) (flat_length hc l) (sat_cells hsz hc h) (fun u hu => by
      obtain ⟨y, _, hy⟩ := List.mem_flatMap.1 hu
      exact h1 y u hy)
theorem row_mid {w : World} {g : Nat} {t : TypeId} (xs ys zs news : List Value) (h : w.heap[g]? = some (.cells (xs ++ ys ++ zs).toArray t (0, 0))) (hl : ys.length = news.length) : (w.setCells g xs.length news).heap[g]? = some (.cells (xs ++ news ++ zs).toArray t (0, 0)) := by
  obtain ⟨cs, h1, h2, h3⟩ := heap_setCells g t news xs.length w _ h
  rw [h1]
  congr 2
  apply Array.ext_getElem?
  intro i
  rw [h3]
  simp only [List.getElem?_toArray, List.size_toArray, List.length_append]
  by_cases c1 : i < xs.length
  · rw [if_neg (by omega), List.append_assoc, List.append_assoc, List.getElem?_append_left c1, List.getElem?_append_left c1]
  · by_cases c2 : i < xs.length + news.length
    · rw [if_pos (by omega), List.getElem?_append_left (by rw [List.length_append]; omega), List.getElem?_append_right (by omega)]
    · rw [if_neg (by omega), List.getElem?_append_right (by rw [List.length_append]; omega), List.getElem?_append_right (by rw [List.length_append]; omega), List.length_append, List.length_append, hl]
theorem row_is {w : World} {g : Nat} {t : TypeId} {cs : Array Value} (h : w.heap[g]? = some (.cells cs t (0, 0))) (o n : Nat) (hn : o + n ≤ cs.size) : (∀ j, j < n → (w.cell? ⟨g, o + j, none⟩).isSome = true) ∧ ∀ j, j < n → w.frozen? ⟨g, o + j, none⟩ = false := by
  refine ⟨fun j hj => ?_, fun j hj => frozen_of_row _ _ _ _ _ h⟩
  rw [cell_of_row _ _ _ _ _ _ h, Array.getElem?_eq_getElem (by omega)]
  rfl
/-- a slice that came of ample: its elements, two to fill, room for one more -/
def Amp {α : Type} (c : α → List Value) (z : List Value) (t : TypeId) (w : World) (g : Nat) (l : List α) (f : α) : Prop := w.heap[g]? = some (.cells (l.flatMap c ++ (c f ++ c f) ++ z).toArray t (0, 0))
theorem Amp.below {α : Type} {c : α → List Value} {z : List Value} {t : TypeId} {w w' : World} {g : Nat} {l : List α} {f : α} (h : Amp c z t w g l f) (hb : Below w.heap.size w w') : Amp c z t w' g l f := (hb.block _ (lt_of_block h)).trans h
theorem Amp.sat {α : Type} {c : α → List Value} {z : List Value} {t : TypeId} {w : World} {g n : Nat} {l : List α} {f : α} (h : Amp c z t w g l f) (hc : ∀ y, (c y).length = n) : SAt n c w (some ⟨g, 0, none⟩) l := fun i hi => by
  refine ⟨g, 0, rfl, lt_of_block h, fun j u hu => ?_⟩
  have hj : j < n := by
    rcases Nat.lt_or_ge j n with h | h
    · exact h
    · rw [List.getElem?_eq_none (by rw [hc]; exact h)] at hu; cases hu
  have hlt : i * n + j < l.length * n := by
    have : (i + 1) * n ≤ l.length * n := Nat.mul_le_mul_right _ hi
    rw [Nat.succ_mul] at this
    omega
  rw [Nat.zero_add, cell_of_row _ _ _ _ _ _ h, List.getElem?_toArray, List.append_assoc, List.getElem?_append_left (by rw [flat_length hc]; exact hlt), flat_get hc l i j hi hj]
  exact hu
theorem Amp.fill {α : Type} {c : α → List Value} {z : List Value} {t : TypeId} {w : World} {g n : Nat} {l : List α} {f : α} (h : Amp c z t w g l f) (hc : ∀ y, (c y).length = n) (k j : Nat) (hk : k < 2) (hj : j < n) : w.cell? ⟨g, (l.length + k) * n + j, none⟩ = (c f)[j]? := by
  have hle : (l.length + k) * n + j = l.length * n + (k * n + j) := by rw [Nat.add_mul, Nat.add_assoc]
  have hkn : k * n + j < 2 * n := by
    have : (k + 1) * n ≤ 2 * n := Nat.mul_le_mul_right _ hk
    rw [Nat.succ_mul] at this
    omega
  rw [cell_of_row _ _ _ _ _ _ h, List.getElem?_toArray, hle, List.append_assoc, List.getElem?_append_right (by rw [flat_length hc]; omega), flat_length hc, Nat.add_sub_cancel_left, List.getElem?_append_left (by rw [List.length_append, hc]; omega)]
  match k, hk with
  | 0, _ => rw [Nat.zero_mul, Nat.zero_add, List.getElem?_append_left (by rw [hc]; exact hj)]
  | 1, _ => rw [Nat.one_mul, List.getElem?_append_right (by rw [hc]; omega), hc, Nat.add_sub_cancel_left]
end Go.Proofs.YtbfhhnpoogmlnaaDoor
namespace Go.Proofs.YtbfhhnpoogmlnaaDoor
open Go.RowKit
theorem own_formK {w : World} {base : Nat} {e : TypeId} {k : Nat} {v : Value} {n : Nat} {xs : List Value} (h : w.ownsRow base e k v n xs) : ∃ a c, v = .slice a n c := by
  rcases h.2 with ⟨hv, h3⟩ | ⟨g, cap, cur, hv, _⟩
  · exact ⟨none, 0, by rw [hv, h3]⟩
  · exact ⟨_, _, hv⟩
theorem own_belowK {w w' : World} {base : Nat} {e : TypeId} {k : Nat} {v : Value} {n : Nat} {xs : List Value} (h : w.ownsRow base e k v n xs) (hb : Below w.heap.size w w') : w'.ownsRow base e k v n xs := by
  refine ⟨h.1, ?_⟩
  rcases h.2 with hv | ⟨g, cap, cur, hv, hB, hg, h3⟩
  · exact .inl hv
  · exact .inr ⟨g, cap, cur, hv, hB, (hb.block g (lt_of_block hg)).trans hg, h3⟩
end Go.Proofs.YtbfhhnpoogmlnaaDoor
namespace Go.Proofs.YtbfhhnpoogmlnaaDoor
open Go.RowKit
set_option linter.unusedVariables false
set_option linter.unusedSimpArgs false
def AmEnd {α : Type} (c : α → List Value) (z : List Value) (t : TypeId) (l : List α) (f : α) (w0 : World) (e : Ending) (w : World) : Prop := ∃ g, e = .returned (.slice (some ⟨g, 0, none⟩) l.length (l.length + 3)) ∧ w0.heap.size ≤ g ∧ Amp c z t w g l f ∧ Below w0.heap.size w0 w
def SpEnd (g : Nat) (t : TypeId) (n : Nat) (w0 : World) (e : Ending) (w : World) : Prop := e = .returned (.tuple #[]) ∧ w0.grownBy w (some g) ∧ ∃ cs, w.heap[g]? = some (.cells cs t (0, 0)) ∧ cs.size = n
theorem grown_set {w0 w : World} {g : Nat} (h : w0.grownBy w (some g)) (i : Nat) (v : Value) : w0.grownBy (w.setCell ⟨g, i, none⟩ v) (some g) := by
  refine ⟨h.os, h.tape, h.output, ?_, fun k hk hne => ?_⟩
  · have : (w.setCell ⟨g, i, none⟩ v).heap.size = w.heap.size := by simp [World.setCell]
    rw [this]; exact h.size
  · rw [heap_setCell_other w ⟨g, i, none⟩ k v (fun e => hne (by rw [e]))]
    exact h.block k hk hne
theorem grown_refl (w : World) (r : Option Nat) : w.grownBy w r := ⟨rfl, rfl, rfl, Nat.le_refl _, fun _ _ _ => rfl⟩
theorem wp_append_roomK {P : Program} {w : World} {o : Oper} {a : Act} {K : Act → World → Prop} {Q : Exit → Act → World → Prop} (s x : Operand) (t tx : TypeId) (hop : o.op = Op.call { callee := Callee.builtin Builtin.append, args := #[s, x], argTypes := #[t, tx] })
    (e : TypeId) (i : TypeInfo) (size : Nat) (ht : P.underlying t = some (.slice e)) (hi : P.info? e = some i) (hsz : i.size = size)
    (b off sLen sCap : Nat) (hs : a.eval s = .slice (some ⟨b, off, none⟩) sLen sCap) (xv : Value) (hx : a.eval x = xv) (n : Nat) (news : List Value) (hsrc : Src P size tx xv n news w)
    (hroom : sLen + n ≤ sCap) (hc : ∀ j, j < news.length → (w.cell? ⟨b, off + sLen * size + j, none⟩).isSome = true) (hf : ∀ j, j < news.length → w.frozen? ⟨b, off + sLen * size + j, none⟩ = false)
    (hK : K (a.put o.dst (.slice (some ⟨b, off, none⟩) (sLen + n) sCap)) (w.setCells b (off + sLen * size) news)) : o.wp P a w K Q := by
  subst hsz
  have hrun := run_append_room_src (P := P) (w := w) t tx o.type e i ht hi b off sLen sCap xv n news hsrc hroom hc hf
  unfold Oper.wp
  simp [execOp, hop, resolve, invoke, builtin, hs, hx, hrun, Result.andThen]
  exact hK
theorem cells_of {w : World} {b : Nat} {t : TypeId} {cs : Array Value} (h : w.heap[b]? = some (.cells cs t (0, 0))) (news : List Value) (hn : news = cs.toList) : ∀ (j : Nat) (u : Value), news[j]? = some u → w.cell? ((⟨b, 0, none⟩ : Addr).add j) = some u := by
  intro j u hj
  subst hn
  rw [Addr.add_lit, Nat.zero_add, cell_of_row _ _ _ _ _ _ h]
  simpa using hj
/-- the row made, filled, and what is filled in at its end -/
theorem amp_steps {α : Type} {n : Nat} {c : α → List Value} (hc : ∀ y, (c y).length = n) {t : TypeId} {z : α} {l : List α} {f : α} {B : Nat} {u : World} (h : u.heap[B]? = some (.cells ((List.replicate (l.length + 3) z).flatMap c).toArray t (0, 0))) :
    (∀ j, j < (l.flatMap c).length → (u.cell? ⟨B, 0 + 0 * n + j, none⟩).isSome = true) ∧ (∀ j, j < (l.flatMap c).length → u.frozen? ⟨B, 0 + 0 * n + j, none⟩ = false) ∧
    (u.setCells B (0 + 0 * n) (l.flatMap c)).heap[B]? = some (.cells (l.flatMap c ++ (List.replicate 3 z).flatMap c).toArray t (0, 0)) := by
  have hfl : (l.flatMap c).length = l.length * n := flat_length hc l
  have e : (List.replicate (l.length + 3) z).flatMap c = [] ++ (List.replicate l.length z).flatMap c ++ (List.replicate 3 z).flatMap c := by
    rw [List.nil_append, ← List.flatMap_append, List.replicate_append_replicate]
  have hz : ((List.replicate (l.length + 3) z).flatMap c).length = (l.length + 3) * n := by rw [flat_length hc, List.length_replicate]
  have hi := row_is h 0 (l.length * n) (by rw [List.size_toArray, hz, Nat.add_mul]; omega)
  refine ⟨fun j hj => ?_, fun j hj => ?_, ?_⟩
  · rw [Nat.zero_mul, Nat.add_zero]; exact hi.1 j (by omega)
  · rw [Nat.zero_mul, Nat.add_zero]; exact hi.2 j (by omega)
  · rw [e] at h
    have := row_mid [] _ _ (l.flatMap c) h (by rw [hfl, flat_length hc, List.length_replicate])
    rw [Nat.zero_mul]
    simpa using this
theorem amp_steps2 {α : Type} {n : Nat} {c : α → List Value} (hc : ∀ y, (c y).length = n) {t : TypeId} {z : α} {l : List α} {f : α} {B : Nat} {u : World} (h : u.heap[B]? = some (.cells (l.flatMap c ++ (List.replicate 3 z).flatMap c).toArray t (0, 0))) :
    (∀ j, j < (c f ++ c f).length → (u.cell? ⟨B, 0 + (0 + l.length) * n + j, none⟩).isSome = true) ∧ (∀ j, j < (c f ++ c f).length → u.frozen? ⟨B, 0 + (0 + l.length) * n + j, none⟩ = false) ∧
    Amp c (c z) t (u.setCells B (0 + (0 + l.length) * n) (c f ++ c f)) B l f := by
  have hfl : (l.flatMap c).length = l.length * n := flat_length hc l
  have h2 : (c f ++ c f).length = 2 * n := by rw [List.length_append, hc]; omega
  have hi := row_is h (l.length * n) (2 * n) (by rw [List.size_toArray, List.length_append, hfl, flat_length hc, List.length_replicate]; omega)
  have e : (List.replicate 3 z).flatMap c = (c z ++ c z) ++ c z := by simp [List.replicate]
  rw [h2]
  refine ⟨fun j hj => ?_, fun j hj => ?_, ?_⟩
  · rw [Nat.zero_add, Nat.zero_add]; exact hi.1 j hj
  · rw [Nat.zero_add, Nat.zero_add]; exact hi.2 j hj
  · rw [e, ← List.append_assoc] at h
    have := row_mid (l.flatMap c) (c z ++ c z) (c z) (c f ++ c f) h (by simp [hc])
    rw [hfl] at this
    unfold Amp
    rw [Nat.zero_add, Nat.zero_add]
    exact this
theorem grown_setCells {w0 w : World} {g : Nat} (h : w0.grownBy w (some g)) (o : Nat) (vs : List Value) : w0.grownBy (w.setCells g o vs) (some g) := by
  have hf := setCells_frame g vs o w
  refine ⟨?_, ?_, ?_, ?_, fun k hk hne => ?_⟩
  · rw [hf.1]; exact h.os
  · rw [hf.1]; exact h.tape
  · rw [hf.1]; exact h.output
  · rw [hf.2]; exact h.size
  · rw [heap_setCells_other g k (fun e => hne (by rw [e])) vs o w]
    exact h.block k hk hne
theorem there_rowO {w : World} {b : Nat} {t : TypeId} {cs : Array Value} (h : w.heap[b]? = some (.cells cs t (0, 0))) (o n : Nat) (hn : o + n ≤ cs.size) : w.there b o n := fun j hj => by
  refine ⟨?_, frozen_of_row _ _ _ _ _ h⟩
  rw [cell_of_row _ _ _ _ _ _ h, Array.getElem?_eq_getElem (by omega)]
  rfl
theorem row_rangeA {w : World} {b : Nat} {t : TypeId} {cs : Array Value} (h : w.heap[b]? = some (.cells cs t (0, 0))) : w.rangeAt b 0 cs.toList := fun j v hj => by
  rw [Nat.zero_add, cell_of_row _ _ _ _ _ _ h]
  simpa using hj
theorem made_flat {α : Type} {n : Nat} {c : α → List Value} (hc : ∀ y, (c y).length = n) (hn : 0 < n) (z : α) (m : Nat) : madeCells (c z).toArray (m * n) = ((List.replicate m z).flatMap c).toArray := by
  apply Array.ext_getElem?
  intro k
  have hl : (List.replicate m z).length = m := List.length_replicate
  by_cases hk : k < m * n
  · have hm : k / n < (List.replicate m z).length := by rw [hl]; exact Nat.div_lt_of_lt_mul (by rw [Nat.mul_comm]; exact hk)
    have hj : k % n < n := Nat.mod_lt _ hn
    have h1 := flat_get hc (List.replicate m z) (k / n) (k % n) hm hj
    have hd : k / n * n + k % n = k := by rw [Nat.mul_comm]; exact Nat.div_add_mod k n
    rw [hd, List.getElem_replicate] at h1
    have hR : (((List.replicate m z).flatMap c).toArray)[k]? = (c z)[k % n]? := by rw [List.getElem?_toArray, h1]
    rw [hR]
    have hs : (c z).toArray.size = n := by simp [hc]
    have hj' : k % n < (c z).length := by rw [hc]; exact hj
    simp only [madeCells, Array.getElem?_map, Array.getElem?_range, hk, if_true, Option.map_some, hs]
    rw [List.getElem?_eq_getElem hj', getElem!_pos (c z).toArray (k % n) (by simpa using hj')]
    simp
  · have hR : (((List.replicate m z).flatMap c).toArray)[k]? = none := by rw [List.getElem?_toArray, List.getElem?_eq_none (by rw [flat_length hc, hl]; omega)]
    rw [hR, Array.getElem?_eq_none (by rw [size_madeCells]; omega)]
/-- a call comes up, alone -/
theorem take_call {P : Program} {ops : Array Oper} {Q : Exit → Act → World → Prop} {md : Region.Mode} {S : World → Prop} {fuel : Nat} {listed : Array Bool} {l : List Value} {df : List Deferred} {w : World} (i : Nat) {oi : Oper} {d : Nat} {f : FuncId} {args : Array Value} (v : Value)
    (hr : Region.ready md ops listed = [i]) (hi : ops[i]? = some oi) (hw : Region.wanted oi (yielded ops l.toArray) = true) (hd : oi.dst = some d)
    (he : (execOp (Act.mk l.toArray df).eval oi).run P w = .ok (.enter f args) w) (hc : Calls P f args w fun e w' => e = .returned v ∧ S w')
    (h : ∀ w', S w' → wpAnyH P md ops Q S fuel (listed.setIfInBounds i true) ⟨(l.set d v).toArray, df⟩ w') : wpAnyH P md ops Q S (fuel + 1) listed ⟨l.toArray, df⟩ w := by
  refine one_ready i hr hi hw (fun K' hK => ?_)
  unfold Oper.wp
  rw [he]
  refine Calls.mono hc ?_
  rintro e w' ⟨rfl, h1⟩
  refine hK.out _ _ h1 ?_
  have h2 := h w' h1
  simpa only [hd, Act.put, List.setIfInBounds_toArray] using h2
end Go.Proofs.YtbfhhnpoogmlnaaDoor
namespace Go.Proofs.YtbfhhnpoogmlnaaDoor
open Go.RowKit
theorem SAt.grown {α : Type} {n : Nat} {c : α → List Value} {w w' : World} {a : Option Addr} {l : List α} {g : Nat} (h : SAt n c w a l) (hg : w.grownBy w' (some g)) (hne : ∀ ad, a = some ad → ad.block ≠ g) : SAt n c w' a l := fun i hi => by
  obtain ⟨b, off, e, hb, hr⟩ := h i hi
  refine ⟨b, off, e, Nat.lt_of_lt_of_le hb hg.size, fun j u hu => ?_⟩
  rw [World.cell?_of_block (a := ⟨b, off + i * n + j, none⟩) (hg.block b hb (fun e2 => hne _ e (by injection e2)))]
  exact hr j u hu
theorem Amp.grown {α : Type} {c : α → List Value} {z : List Value} {t : TypeId} {w w' : World} {b g : Nat} {l : List α} {f : α} (h : Amp c z t w b l f) (hg : w.grownBy w' (some g)) (hne : b ≠ g) : Amp c z t w' b l f :=
  (hg.block b (lt_of_block h) (fun e => hne (by injection e))).trans h
theorem below_grown {B g : Nat} {a w w' : World} (h : Below B a w) (hg : w.grownBy w' (some g)) (hB : B ≤ w.heap.size) (hBg : B ≤ g) : Below B a w' := h.grown hg hB (fun k e => by injection e with e; omega)
/-- the slice lies in a block from B on, or nowhere -/
def NB (B : Nat) (a : Option Addr) : Prop := ∀ ad, a = some ad → B ≤ ad.block
theorem NB.ne {B : Nat} {a : Option Addr} (h : NB B a) {g : Nat} (hg : g < B) : ∀ ad, a = some ad → ad.block ≠ g := fun ad e => by have := h ad e; omega
theorem NB.mono {B C : Nat} {a : Option Addr} (h : NB B a) (hC : C ≤ B) : NB C a := fun ad e => Nat.le_trans hC (h ad e)
theorem nb_own {w : World} {base : Nat} {a : Option Addr} {T : TypeId} {k n m c : Nat} {xs : List Value} (h : w.ownsRow base T k (.slice a m c) n xs) : NB base a := by
  intro ad e
  rcases h.2 with ⟨h0, _⟩ | ⟨g, c', cur, h0, hbg, _⟩
  · injection h0 with h0 _ _
    rw [e] at h0
    cases h0
  · injection h0 with h0 _ _
    rw [e] at h0
    injection h0 with h0
    subst h0
    exact hbg
theorem Amp.cells {α : Type} {c : α → List Value} {n : Nat} {z : List Value} {t : TypeId} {w : World} {b : Nat} {l : List α} {f : α} (h : Amp c z t w b l f) (hc : ∀ y, (c y).length = n) (hz : z.length = n) : ∃ cs, w.heap[b]? = some (.cells cs t (0, 0)) ∧ cs.size = (l.length + 3) * n := by
  refine ⟨_, h, ?_⟩
  simp only [List.size_toArray, List.length_append, flat_length hc, hc, hz, Nat.add_mul]
  omega
end Go.Proofs.YtbfhhnpoogmlnaaDoor
