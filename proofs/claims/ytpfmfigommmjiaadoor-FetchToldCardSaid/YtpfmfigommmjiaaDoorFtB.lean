/- Joined: Slices, AppendSat, OwnForm, Bits. -/
import Derived.WalkKit
import Derived.ProofKit
import Derived.OpenShut
import Derived.SizedLaws
import Derived.Lib.Hide
import Derived.Deep.MidRow
import Derived.Deep.Slices
import Derived.Deep.Fields
import Derived.ChangeSame
import Derived.Laws.OwnMore
import Derived.Test.YtpfmfigommmjiaaDoorFtA
import Derived.Deep.RegionHeld3
import Derived.WalkLawsBesides
namespace Go.Proofs.YtpfmfigommmjiaaDoor
open Go.RowKit Go.ChangeShapes Go.WideShapes Go.ChangeAt
/-- the elements of l lie at a, n cells each -/
def SAt {α : Type} (n : Nat) (c : α → List Value) (w : World) (a : Option Addr) (l : List α) : Prop :=
  ∀ i (h : i < l.length), ∃ g off, a = some ⟨g, off, none⟩ ∧ g < w.heap.size ∧ w.rangeAt g (off + i * n) (c l[i])
section
variable {α : Type} {n : Nat} {c : α → List Value} {w w' : World} {a : Option Addr} {l : List α}
theorem SAt.nil : SAt n c w a ([] : List α) := fun i h => absurd h (by simp)
theorem SAt.below (h : SAt n c w a l) (hb : Below w.heap.size w w') : SAt n c w' a l := fun i hi => by
  obtain ⟨g, off, e, hg, hr⟩ := h i hi
  exact ⟨g, off, e, Nat.lt_of_lt_of_le hg hb.size, fun j u hu => (hb.cell (p := ⟨g, off + i * n + j, none⟩) hg).trans (hr j u hu)⟩
theorem SAt.drew (h : SAt n c w a l) : SAt n c w.drew a l := h
/-- one element of a row of cells -/
theorem flat_get (hc : ∀ y, (c y).length = n) : ∀ (l : List α) (i j : Nat) (h : i < l.length), j < n → (l.flatMap c)[i * n + j]? = (c l[i])[j]?
  | [], i, j, h, _ => by cases h
  | p :: l, 0, j, h, hj => by
    rw [List.flatMap_cons, List.getElem?_append_left (by rw [hc]; omega)]
    simp
  | p :: l, i + 1, j, h, hj => by
    rw [List.flatMap_cons, List.getElem?_append_right (by rw [hc, Nat.succ_mul]; omega), hc]
    have := flat_get hc l i j (by simpa using h) hj
    rw [show (i + 1) * n + j - n = i * n + j by rw [Nat.succ_mul]; omega, this]
    rfl
theorem flat_length (hc : ∀ y, (c y).length = n) : ∀ l : List α, (l.flatMap c).length = l.length * n
  | [] => by simp
  | p :: l => by rw [List.flatMap_cons, List.length_append, hc, flat_length hc l, List.length_cons, Nat.succ_mul]; omega
/-- a row of the call's own read as a list -/
theorem SAt.own {base : Nat} {t : TypeId} {v : Value} (h : w.ownsRow base t n v l.length (l.flatMap c)) (hc : ∀ y, (c y).length = n) :
    ∃ a cap, v = .slice a l.length cap ∧ l.length ≤ cap ∧ cap ≤ 9223372036854775807 ∧ SAt n c w a l := by
  obtain ⟨_, h2⟩ := h
  rcases h2 with ⟨hv, h3⟩ | ⟨g, cap, cur, hv, hb, hg, h3, h4, h5, h6⟩
  · refine ⟨none, 0, by rw [hv, h3], by omega, by omega, fun i hi => by omega⟩
  · refine ⟨_, cap, hv, h3, by unfold maxLen at h4; exact h4, fun i hi => ⟨g, 0, rfl, lt_of_block hg, fun j u hu => ?_⟩⟩
    have hj : j < n := by
      rcases Nat.lt_or_ge j n with h | h
      · exact h
      · rw [List.getElem?_eq_none (by rw [hc]; exact h)] at hu; cases hu
    have hlt : i * n + j < l.length * n := by
      have : (i + 1) * n ≤ l.length * n := Nat.mul_le_mul_right _ hi
      rw [Nat.succ_mul] at this
      omega
    rw [Nat.zero_add, cell_of_row _ _ _ _ _ _ hg, ← hu, ← flat_get hc l i j hi hj, ← h6, List.getElem?_take, if_pos hlt]
    simp
/-- a slice that is read, opened -/
theorem SAt.trod {H : Type} {P : Program} {enc : TypeId × Value → H} {base : Nat} {sp : Nat → Bool} {held : Bool} {t e : TypeId} (Pr : α → Prop) (ht : P.underlying t = some (.slice e)) (hC : P.cellsOf e = n) (hn : 0 < n) (hc : ∀ y, (c y).length = n)
    (hread : ∀ fuel cs x, DataW.trod enc P w base sp held fuel e cs = some x → ∃ y, cs = c y ∧ Pr y) {fuel : Nat} {vs : List Value} {d : DataW H × List MemPlace} (hf : DataW.trod enc P w base sp held fuel t vs = some d) :
    ∃ (a : Option Addr) (l : List α) (cap : Nat), vs = [.slice a l.length cap] ∧ l.length ≤ cap ∧ cap ≤ 9223372036854775807 ∧ (∀ y ∈ l, Pr y) ∧ SAt n c w a l ∧ (l = [] ∨ ∃ elems spare, d.1 = .slice elems spare ∧ elems.length = l.length) := by
  rcases Go.Deep.open_slice ht hf with ⟨hcs, _⟩ | ⟨a', len, cap, m, k, D, Pl, hcs, _, hl, hm, hmm, hxd, hx⟩
  · subst hcs
    exact ⟨none, [], 0, rfl, by simp, by simp, by simp, SAt.nil, .inl rfl⟩
  · subst hcs
    have hlm : len ≤ m := by rw [hmm]; split <;> omega
    have hall : ∀ i, i < len → ∃ y : α, Pr y ∧ ∀ j, j < n → w.cell? ((a'.add (i * n)).add j) = (c y)[j]? := by
      intro i hi
      obtain ⟨cs', h1, h2⟩ := hx i (by omega)
      rw [hC] at h1
      obtain ⟨y, rfl, hy⟩ := hread _ _ _ h2
      obtain ⟨_, _, hcl⟩ := World.cells?_some h1
      exact ⟨y, hy, hcl⟩
    by_cases h0 : len = 0
    · subst h0
      exact ⟨some a', [], cap, rfl, by simp, by unfold maxLen at hm; exact hm, by simp, SAt.nil, .inl rfl⟩
    · have : Inhabited α := ⟨(hall 0 (by omega)).choose⟩
      obtain ⟨f, hf'⟩ := Go.Deep.choose_lt hall
      have hget : ∀ k (h : k < ((List.range len).map f).length), ((List.range len).map f)[k] = f k := by intro k h; simp
      refine ⟨some a', (List.range len).map f, cap, by simp, by simpa using hl, by unfold maxLen at hm; exact hm, ?_, ?_, .inr ⟨_, _, by rw [hxd], by simp⟩⟩
      · intro y hy
        simp only [List.mem_map, List.mem_range] at hy
        obtain ⟨i, hi, rfl⟩ := hy
        exact (hf' i hi).1
      · obtain ⟨b, off, spt⟩ := a'
        have hcell := fun i (hi : i < len) j (hj : j < n) => (hf' i hi).2 j hj
        simp only [Go.Deep.add_add] at hcell
        have h00 := hcell 0 (by omega) 0 hn
        rw [List.getElem?_eq_getElem (show 0 < (c (f 0)).length by rw [hc]; exact hn)] at h00
        have hspt : spt = none := by simpa [Addr.add] using World.cell?_spot h00
        subst hspt
        have hbl := World.block_lt_of_cell? _ _ h00
        intro k hk
        refine ⟨b, off, rfl, by simpa [Addr.add] using hbl, ?_⟩
        rw [hget k hk]
        intro j u hu
        have hk' : k < len := by simpa using hk
        have hj : j < n := by
          rcases Nat.lt_or_ge j n with h | h
          · exact h
          · rw [List.getElem?_eq_none (by rw [hc]; exact h)] at hu; cases hu
        have := hcell k hk' j hj
        rw [hu] at this
        rw [← this]
        congr 1
        unfold Addr.add
        split
        · rename_i h0'
          obtain rfl : j = 0 := by omega
          simp
        · simp [Nat.add_assoc]
/-- an argument opened -/
theorem SAt.open_ {H : Type} {P : Program} {enc : TypeId × Value → H} {r : Reach} {base b0 : Nat} {sp : Nat → Bool} {held : Bool} {t e : TypeId} {v : Value} {d : DataW H} {p : List MemPlace} (Pr : α → Prop) (ht : P.underlying t = some (.slice e)) (hC : P.cellsOf e = n) (hn : 0 < n) (hc : ∀ y, (c y).length = n)
    (hread : ∀ fuel cs x, DataW.trod enc P w base sp held fuel e cs = some x → ∃ y, cs = c y ∧ Pr y) (ho : Value.okWide P w r b0 t v) (hd : DataW.Trod enc P w base sp held t v d p) :
    ∃ (a : Option Addr) (l : List α) (cap : Nat), v = .slice a l.length cap ∧ l.length ≤ cap ∧ cap ≤ 9223372036854775807 ∧ (∀ y ∈ l, Pr y) ∧ SAt n c w a l ∧ (l = [] ∨ ∃ elems spare, d = .slice elems spare ∧ elems.length = l.length) := by
  obtain ⟨a, len, cap, rfl⟩ := okWide_slice ht ho
  obtain ⟨fuel, hf⟩ := hd
  obtain ⟨a', l, cap', hv, h1, h2, h3, h4, h5⟩ := SAt.trod Pr ht hC hn hc hread hf
  simp only [Value.cells, List.cons.injEq, and_true] at hv
  exact ⟨a', l, cap', hv, h1, h2, h3, h4, h5⟩
end
/-- the fields of a struct, a cell each -/
theorem trod_fields {H : Type} {P : Program} {enc : TypeId × Value → H} {w : World} {base : Nat} {sp : Nat → Bool} {held : Bool} {e : TypeId} {fs : Array Field} {fuel : Nat} {cs : List Value} {x : DataW H × List MemPlace}
    (he : P.underlying e = some (.struct fs)) (hone : Go.Deep.oneCellFields P fs = true) (hC : P.cellsOf e = fs.size) (h : DataW.trod enc P w base sp held fuel e cs = some x) :
    cs.length = fs.size ∧ ∀ (j : Nat) (f : Field), fs[j]? = some f → ∃ (u : Value) (m : Nat) (y : DataW H × List MemPlace), cs[j]? = some u ∧ DataW.trod enc P w base sp held m f.type [u] = some y := by
  obtain ⟨ys, m, _, _, hlen, hyl, hf⟩ := DataW.trod_struct he h
  refine ⟨hlen.trans hC, fun j f hj => ?_⟩
  obtain ⟨ho, hk⟩ := Go.Deep.hone_of hone j f hj
  have hjl : j < fs.size := (Array.getElem?_eq_some_iff.1 hj).1
  have hjc : j < cs.length := by omega
  have h1 := hf j f hj
  rw [ho, hk, List.drop_eq_getElem_cons hjc] at h1
  have hys : ys[j]? = some (ys[j]'(by omega)) := List.getElem?_eq_getElem (by omega)
  rw [hys] at h1
  exact ⟨cs[j], m, _, List.getElem?_eq_getElem hjc, h1⟩
end Go.Proofs.YtpfmfigommmjiaaDoor
namespace Go.Proofs.YtpfmfigommmjiaaDoor
open Go.RowKit
section
variable {P : Program} {w : World}
theorem run_append_nil (base : Nat) (t ty e : TypeId) (i : TypeInfo) (size : Nat) (ht : P.underlying t = some (.slice e)) (hi : P.info? e = some i)
    (v : Value) (n : Nat) (xs : List Value) (hown : w.ownsRow base e size v n xs) (c : Nat) : (Builtin.append_ #[t, t] ty #[v, .slice none 0 c]).run P w = .ok v w := by
  rcases hown.2 with ⟨rfl, rfl⟩ | ⟨g, cap, cur, rfl, _, _, hnc, _⟩
  · simp [Builtin.append_, run_underlying ht, sizeOf, typeInfo, hi, Builtin.lenOf, Builtin.firstCells]
  · simp [Builtin.append_, run_underlying ht, sizeOf, typeInfo, hi, Builtin.lenOf, Builtin.firstCells, hnc, storeCells]
theorem sat_cells {α : Type} {size : Nat} {cf : α → List Value} {g off : Nat} {l : List α} (hsz : 0 < size) (hc : ∀ y, (cf y).length = size) (h : SAt size cf w (some ⟨g, off, none⟩) l) : ∀ j u, (l.flatMap cf)[j]? = some u → w.cell? ((⟨g, off, none⟩ : Addr).add j) = some u := by
  intro j u hu
  have hj : j < l.length * size := by
    rcases Nat.lt_or_ge j (l.length * size) with h | h
    · exact h
    · rw [List.getElem?_eq_none (by rw [flat_length hc]; exact h)] at hu; cases hu
  have hi : j / size < l.length := (Nat.div_lt_iff_lt_mul hsz).2 hj
  have hr : j % size < size := Nat.mod_lt _ hsz
  have hd : j / size * size + j % size = j := by rw [Nat.mul_comm]; exact Nat.div_add_mod j size
  obtain ⟨g', off', e, _, hcell⟩ := h (j / size) hi
  injection e with e
  injection e with e1 e2 _
  subst e1 e2
  rw [Addr.add_mid]
  have hu2 := hu
  rw [← hd, flat_get hc l (j / size) (j % size) hi hr] at hu2
  have := hcell (j % size) u hu2
  rwa [Nat.add_assoc, hd] at this
theorem wpList_append_sat {ops : Array Oper} {rest : List Oper} {o : Oper} {a : Act} {Q : Exit → Act → World → Prop} (hgd : o.guard = none) (s x : Operand) (t : TypeId)
    (ho : o.op = .call { callee := .builtin .append, args := #[s, x], argTypes := #[t, t] })
    (base : Nat) (e : TypeId) (i : TypeInfo) (z : Value) (size bytes : Nat) (ht : P.underlying t = some (.slice e)) (hi : P.info? e = some i) (hz : i.zero = some z)
    (hsize : i.size = size) (hby : i.bytes = bytes) (hzs : z.cells.size = size) (hsz : 0 < size)
    (v : Value) (n : Nat) (xs : List Value) (hs : a.eval s = v) (hown : w.ownsRow base e size v n xs)
    {α : Type} {cf : α → List Value} (A : Option Addr) (c : Nat) (l : List α) (hx : a.eval x = .slice A l.length c) (hl : SAt size cf w A l) (hc : ∀ y, (cf y).length = size) (h1 : ∀ y, ∀ u ∈ cf y, u.oneCell' = true)
    (h63 : n + l.length ≤ maxLen) (hbytes : (n + l.length) * bytes ≤ 140737488355328) (hbase : base ≤ w.heap.size)
    (h : ∀ v' w', w'.ownsRow base e size v' (n + l.length) (xs ++ l.flatMap cf) → w.grownBy w' v.ownBlock → wpList P ops Q rest (a.put o.dst v') w') : wpList P ops Q (o :: rest) a w := by
  rcases A with _ | ad
  · have hn : l = [] := by
      cases l with
      | nil => rfl
      | cons y l => obtain ⟨g, off, e, _⟩ := hl 0 (by simp); cases e
    subst hn
    refine wpList_plain hgd fun K hK => ?_
    have hrun := run_append_nil (P := P) (w := w) base t o.type e i size ht hi v n xs hown c
    unfold Oper.wp
    have hx' : a.eval x = .slice none 0 c := hx
    simp [execOp, ho, resolve, invoke, builtin, hs, hx', hrun, Result.andThen]
    exact hK _ _ (h v w (by simpa using hown) (World.grownBy.refl w _))
  · by_cases h0 : l = []
    · subst h0
      exact wpList_append_own w hgd s x t ho base e i z size bytes ht hi hz hsize hby hzs hsz v n xs hs hown ad 0 c [] hx (by simp) (by simp) (by simp) h63 hbytes hbase fun v' w' h2 h3 _ => h v' w' h2 h3
    · obtain ⟨g, off, e', _, _⟩ := hl 0 (List.length_pos_iff.2 h0)
      injection e' with e'
      subst e'
      exact wpList_append_own w hgd s x t ho base e i z size bytes ht hi hz hsize hby hzs hsz v n xs hs hown ⟨g, off, none⟩ l.length c (l.flatMap cf) hx (flat_length hc l) (sat_cells hsz hc hl) (fun u hu => by
        obtain ⟨y, _, hu⟩ := List.mem_flatMap.1 hu
        exact h1 y u hu) h63 hbytes hbase fun v' w' h2 h3 _ => h v' w' h2 h3
/-- an owned row cut at its end -/
theorem own_cut {base : Nat} {e : TypeId} {size n m c : Nat} {a : Option Addr} {xs : List Value} (h : w.ownsRow base e size (.slice a n c) n xs) (hm : m ≤ n) (ha : 0 < n) : w.ownsRow base e size (.slice a m c) m (xs.take (m * size)) := by
  obtain ⟨h1, h2⟩ := h
  rcases h2 with ⟨_, h3⟩ | ⟨g, cap, cur, hv, hb, hg, h3, h4, h5, h6⟩
  · omega
  · injection hv with hv1 _ hv3
    subst hv1 hv3
    have hle : m * size ≤ n * size := Nat.mul_le_mul_right _ hm
    refine ⟨by rw [List.length_take, h1]; exact Nat.min_eq_left hle, .inr ⟨g, c, cur, rfl, hb, hg, by omega, h4, h5, ?_⟩⟩
    rw [← h6, List.take_take, Nat.min_eq_left hle]
end
end Go.Proofs.YtpfmfigommmjiaaDoor
namespace Go.Proofs.YtpfmfigommmjiaaDoor
open Go.RowKit
theorem own_formK {w : World} {base : Nat} {e : TypeId} {k : Nat} {v : Value} {n : Nat} {xs : List Value} (h : w.ownsRow base e k v n xs) : ∃ a c, v = .slice a n c := by
  rcases h.2 with ⟨hv, h3⟩ | ⟨g, cap, cur, hv, _⟩
  · exact ⟨none, 0, by rw [hv, h3]⟩
  · exact ⟨_, _, hv⟩
theorem own_belowK {w w' : World} {base : Nat} {e : TypeId} {k : Nat} {v : Value} {n : Nat} {xs : List Value} (h : w.ownsRow base e k v n xs) (hb : Below w.heap.size w w') : w'.ownsRow base e k v n xs := by
  refine ⟨h.1, ?_⟩
  rcases h.2 with hv | ⟨g, cap, cur, hv, hB, hg, h3⟩
  · exact .inl hv
  · exact .inr ⟨g, cap, cur, hv, hB, (hb.block g (lt_of_block hg)).trans hg, h3⟩
end Go.Proofs.YtpfmfigommmjiaaDoor
namespace Go.Proofs.YtpfmfigommmjiaaDoor
theorem wraps_i64 (n : Int) (h₀ : 0 ≤ n) (h₁ : n < 2 ^ 63) : IntKind.i64.wrap n = n := by
  rw [IntKind.wrap_i64]; omega
theorem i64_and_nat (a b : Nat) (ha : a < 9223372036854775808) (hb : b < 9223372036854775808) : bits .and .i64 (a : Int) (b : Int) = ((a &&& b : Nat) : Int) :=
  (bits_nat .i64 63 (by decide) wraps_i64 a b ha hb).1
theorem i64_or_nat (a b : Nat) (ha : a < 9223372036854775808) (hb : b < 9223372036854775808) : bits .or .i64 (a : Int) (b : Int) = ((a ||| b : Nat) : Int) :=
  (bits_nat .i64 63 (by decide) wraps_i64 a b ha hb).2
theorem ret_int {k : IntKind} {a b : Int} (h : a = b) : Ending.returned (.int k a) = .returned (.int k b) := by rw [h]
theorem ret_bool {a b : Bool} (h : a = b) : Ending.returned (.bool a) = .returned (.bool b) := by rw [h]
theorem and1_nat (A : Nat) : (A &&& 1) = bif A.testBit 0 then 1 else 0 := by
  rw [Nat.and_one_is_mod, Nat.testBit_zero]
  by_cases h : A % 2 = 1
  · simp [h]
  · have : A % 2 = 0 := by omega
    simp [this]
theorem natEq {x y : Nat} (h : x = y) : ((x : Int) == (y : Int)) = true := by subst h; simp
theorem natNe {x y : Nat} (h : x = y) : ((x : Int) != (y : Int)) = false := by subst h; simp
theorem div_pow_nat (m v : Nat) : ((m : Int) / 2 ^ v) = ((m / 2 ^ v : Nat) : Int) := by simp
theorem testBit_and1 (m v : Nat) : (m / 2 ^ v) &&& 1 = bif m.testBit v then 1 else 0 := by
  rw [and1_nat, ← Nat.shiftRight_eq_div_pow, Nat.testBit_shiftRight]; rfl
theorem bit_u64 (m v : Nat) (h : m < 18446744073709551616) : bits .and .u64 ((m : Int) / 2 ^ v) 1 = ((bif m.testBit v then 1 else 0 : Nat) : Int) := by
  rw [div_pow_nat, ← testBit_and1]
  exact bits_and_u64_nat _ 1 (Nat.lt_of_le_of_lt (Nat.div_le_self _ _) h) (by decide)
theorem bit_u32 (m v : Nat) (h : m < 4294967296) : bits .and .u32 ((m : Int) / 2 ^ v) 1 = ((bif m.testBit v then 1 else 0 : Nat) : Int) := by
  rw [div_pow_nat, ← testBit_and1]
  exact u32_and_nat _ 1 (Nat.lt_of_le_of_lt (Nat.div_le_self _ _) h) (by decide)
theorem shl_u64 (c k : Nat) (h : c <<< k < 18446744073709551616) : IntKind.u64.wrap ((c : Int) * 2 ^ k) = ((c <<< k : Nat) : Int) := by
  rw [IntKind.wrap_u64, Nat.shiftLeft_eq]
  rw [Nat.shiftLeft_eq] at h
  have : ((c : Int) * 2 ^ k) = ((c * 2 ^ k : Nat) : Int) := by simp
  rw [this]
  omega
theorem byteOf {a : Int} (h : (Lit.int .u8 a).wf = true) : ∃ n : Nat, a = n ∧ n < 256 := by
  have hx : 0 ≤ a ∧ a ≤ 255 := by simpa [Lit.wf, IntKind.min, IntKind.max, IntKind.signed, IntKind.bits] using h
  exact ⟨a.toNat, by omega, by omega⟩
theorem u32Of {a : Int} (h : (Lit.int .u32 a).wf = true) : ∃ n : Nat, a = n ∧ n < 4294967296 := by
  have hx : 0 ≤ a ∧ a ≤ 4294967295 := by simpa [Lit.wf, IntKind.min, IntKind.max, IntKind.signed, IntKind.bits] using h
  exact ⟨a.toNat, by omega, by omega⟩
theorem u64Of {a : Int} (h : (Lit.int .u64 a).wf = true) : ∃ n : Nat, a = n ∧ n < 18446744073709551616 := by
  have hx : 0 ≤ a ∧ a ≤ 18446744073709551615 := by simpa [Lit.wf, IntKind.min, IntKind.max, IntKind.signed, IntKind.bits] using h
  exact ⟨a.toNat, by omega, by omega⟩
theorem i64Of {a : Int} (h : (Lit.int .i64 a).wf = true) : -9223372036854775808 ≤ a ∧ a ≤ 9223372036854775807 := by
  simpa [Lit.wf, IntKind.min, IntKind.max, IntKind.signed, IntKind.bits] using h
end Go.Proofs.YtpfmfigommmjiaaDoor
