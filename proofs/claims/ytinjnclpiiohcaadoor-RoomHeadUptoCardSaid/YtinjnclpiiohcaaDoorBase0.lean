/- Joined: Mem, Append, Basis, Bits, Words, Drawn, StoreNew, CRow, Det, Det2, Det3, Slices, Results, Arrays, OpenArr. -/
import Derived.WalkKit
import Derived.WalkSpells
import Derived.WalkLawsBesides
import Derived.Lib.ConvBytes
import Derived.Lib.SlBytesRow
import Derived.Lib.Hide
import Derived.Laws.OwnMore
import Derived.Deep.Draws
import Derived.Deep.MidRow
import Derived.Deep.RegionHeld3
import Derived.ProofKit
import Derived.OpenShut
import Derived.SizedLaws
import Derived.Deep.Slices
import Derived.Deep.Fields
import Derived.ChangeSame
import Derived.Laws.Rows
import Derived.ChangeOld
import Derived.ShutString
namespace Go.Proofs.YtinjnclpiiohcaaDoor
open Go.RowKit
/-- the bytes of a string, as numbers -/
def strN (s : ByteArray) : List Nat := s.data.toList.map UInt8.toNat
theorem strN_length (s : ByteArray) : (strN s).length = s.size := by rw [strN, List.length_map, Array.length_toList]; rfl
theorem strN_lt (s : ByteArray) : ∀ c ∈ strN s, c < 256 := by
  intro c hc
  simp only [strN, List.mem_map] at hc
  obtain ⟨b, _, rfl⟩ := hc
  exact b.toNat_lt
theorem strN_getD (s : ByteArray) (j : Nat) : (s.data.toList.getD j 0).toNat = (strN s).getD j 0 := by
  simp only [strN, List.getD_eq_getElem?_getD, List.getElem?_map]
  cases s.data.toList[j]? <;> rfl
theorem bytesWorld_below {w : World} (e : TypeId) (s : ByteArray) : Below w.heap.size w (Lib.bytesWorld w e s) where
  os := rfl
  tape := rfl
  output := rfl
  size := by rw [Lib.bytesWorld_size]; omega
  block k hk := Lib.bytesWorld_at_old w e s k hk
theorem bytesWorld_cellN (w : World) (e : TypeId) (s : ByteArray) (j : Nat) (hj : j < s.size) : (Lib.bytesWorld w e s).cell? ⟨w.heap.size, j, none⟩ = some (.int .u8 (((strN s).getD j 0 : Nat) : Int)) := by
  rw [Lib.bytesWorld_cell w e s j hj, strN_getD]
theorem extract_strN (s : ByteArray) (a : Nat) : strN (s.extract a s.size) = (strN s).drop a := by
  unfold strN
  rw [Lib.extract_data, List.map_take, List.map_drop]
  exact List.take_of_length_le (by rw [List.length_drop, List.length_map, Array.length_toList]; exact Nat.le_refl _)
theorem extract_strN' (s : ByteArray) (a b : Nat) : strN (s.extract a b) = ((strN s).drop a).take (b - a) := by
  unfold strN
  rw [Lib.extract_data, List.map_take, List.map_drop]
theorem Below.next {B : Nat} {w w1 w2 : World} (h : Below B w w1) (hb : Below w1.heap.size w1 w2) (hB : B ≤ w.heap.size) : Below B w w2 :=
  h.trans (hb.mono (Nat.le_trans hB h.size))
theorem Below.step {w w1 w2 : World} (h : Below w.heap.size w w1) (hb : Below w1.heap.size w1 w2) : Below w.heap.size w w2 := Below.next h hb (Nat.le_refl _)
/-- a byte as a value -/
def bV (n : Nat) : Value := .int .u8 (n : Int)
/-- block B holds the bytes l, each may be written -/
def BRow (w : World) (e : TypeId) (B : Nat) (l : List Nat) : Prop := w.heap[B]? = some (.cells (l.map bV).toArray e (0, 0))
theorem BRow.cell {w : World} {e : TypeId} {B : Nat} {l : List Nat} (h : BRow w e B l) {k : Nat} (hk : k < l.length) : w.cell? ⟨B, k, none⟩ = some (.int .u8 ((l.getD k 0 : Nat) : Int)) := by
  rw [cell_of_row w B k _ e _ h]
  simp [List.getElem?_map, List.getD_eq_getElem?_getD, List.getElem?_eq_getElem hk, bV]
theorem BRow.frozen {w : World} {e : TypeId} {B : Nat} {l : List Nat} (h : BRow w e B l) (k : Nat) : w.frozen? ⟨B, k, none⟩ = false := frozen_of_row w B k _ e h
theorem BRow.drew {w : World} {e : TypeId} {B : Nat} {l : List Nat} (h : BRow w e B l) : BRow w.drew e B l := h
theorem BRow.lt {w : World} {e : TypeId} {B : Nat} {l : List Nat} (h : BRow w e B l) : B < w.heap.size := lt_of_block h
theorem BRow.below {w w' : World} {e : TypeId} {B : Nat} {l : List Nat} (h : BRow w e B l) (hb : Below w.heap.size w w') : BRow w' e B l := (hb.block B h.lt).trans h
theorem BRow.set {w : World} {e : TypeId} {B : Nat} {l : List Nat} (h : BRow w e B l) (k v : Nat) : BRow (w.setCell ⟨B, k, none⟩ (.int .u8 (v : Int))) e B (l.set k v) := by
  have := heap_setCell_same w B k _ e (.int .u8 (v : Int)) h
  unfold BRow
  rw [this]
  simp [List.map_set, bV]
theorem BRow.new (w : World) (e : TypeId) (l : List Nat) : BRow (w.alloc (.cells (l.map bV).toArray e)) e w.heap.size l := heap_alloc_new w _
theorem BRow.zeros (w : World) (e : TypeId) (n : Nat) : BRow (w.alloc (.cells (Array.replicate n (bV 0)) e)) e w.heap.size (List.replicate n 0) := by
  have := BRow.new w e (List.replicate n 0)
  simpa using this
theorem BRow.bytes {w : World} {e : TypeId} {B : Nat} {l : List Nat} (h : BRow w e B l) (s : ByteArray) (hs : strN s = l) : Lib.Bytes w B 0 s := by
  intro i hi
  subst hs
  have := h.cell (k := i) (by rw [strN_length]; exact hi)
  rw [Nat.zero_add, this, ← strN_getD]
  congr 3
  rw [List.getD_eq_getElem?_getD, List.getElem?_eq_getElem (by rw [Array.length_toList]; exact hi)]
  rfl
/-- the string of a list of bytes -/
def strOf (l : List Nat) : ByteArray := ⟨(l.map UInt8.ofNat).toArray⟩
theorem strN_strOf (l : List Nat) (h : ∀ c ∈ l, c < 256) : strN (strOf l) = l := by
  show ((l.map UInt8.ofNat).toArray.toList.map UInt8.toNat) = l
  rw [List.toList_toArray, List.map_map]
  conv => rhs; rw [← List.map_id l]
  apply List.map_congr_left
  intro c hc
  simp [Function.comp, Nat.mod_eq_of_lt (h c hc)]
theorem strOf_strN (s : ByteArray) : strOf (strN s) = s := by
  show (⟨((s.data.toList.map UInt8.toNat).map UInt8.ofNat).toArray⟩ : ByteArray) = s
  have : (s.data.toList.map UInt8.toNat).map UInt8.ofNat = s.data.toList := by
    rw [List.map_map]
    conv => rhs; rw [← List.map_id s.data.toList]
    apply List.map_congr_left
    intro c _
    simp
  rw [this, Array.toArray_toList]
theorem strOf_size (l : List Nat) : (strOf l).size = l.length := by
  show ((l.map UInt8.ofNat).toArray).size = _
  simp
theorem strN_inj {s t : ByteArray} (h : strN s = strN t) : s = t := by rw [← strOf_strN s, h, strOf_strN]
/-- 'make([]byte, c)' -/
theorem run_make_bytes {P : Program} (w : World) (t e : TypeId) (ht : P.underlying t = some (.slice e)) (hi : (P.info? e).map (fun i => (i.zero, i.size, i.bytes)) = some (some (.int .u8 0), 1, 1)) (c : Int) (h0 : 0 ≤ c) (hc : c ≤ 281474976710656) :
    (Instr.makeSlice t (.int .i64 c) (.int .i64 c)).run P w = .ok (.slice (some ⟨w.heap.size, 0, none⟩) c.toNat c.toNat) (w.alloc (.cells (Array.replicate c.toNat (bV 0)) e)) := by
  obtain ⟨i, hi, hz, hs, hb⟩ := info_parts hi
  have := run_make (P := P) w t e i (.int .u8 0) ht hi hz .i64 .i64 c c h0 (Int.le_refl _) (by rw [hb]; omega) (by omega)
  rw [this, hs]
  congr 3
  simp only [madeCells, Nat.mul_one]
  apply Array.ext
  · simp
  · intro k h1 h2
    simp [Value.cells, bV, Nat.mod_one]
/-- 'string(b)' of a row of bytes of its own -/
theorem run_string_of_row {P : Program} (w : World) (src e dst : TypeId) (hs : P.underlying src = some (.slice e)) (he : P.underlying e = some (.int .u8)) (hd : P.underlying dst = some .string) (B : Nat) (l : List Nat) (h : BRow w e B l) (hl : ∀ c ∈ l, c < 256) (cap : Nat) :
    (convert src dst (.slice (some ⟨B, 0, none⟩) l.length cap)).run P w = .ok (.string (strOf l)) w := by
  have := Lib.run_convert_whole (P := P) w src e dst hs he hd B 0 (strOf l) (h.bytes _ (strN_strOf l hl)) cap
  rw [strOf_size] at this
  exact this
end Go.Proofs.YtinjnclpiiohcaaDoor
namespace Go.Proofs.YtinjnclpiiohcaaDoor
open Go.RowKit
/-- the cells of a block just made -/
theorem cells_new (w : World) (cs : Array Value) (t : TypeId) : ∀ (j : Nat) (u : Value), cs.toList[j]? = some u → (w.alloc (.cells cs t)).cell? ((⟨w.heap.size, 0, none⟩ : Addr).add j) = some u := by
  intro j u hu
  have e : ((⟨w.heap.size, 0, none⟩ : Addr).add j) = ⟨w.heap.size, j, none⟩ := by
    unfold Addr.add
    split
    · rename_i h; subst h; rfl
    · simp
  rw [e, cell_of_row _ _ _ _ _ _ (heap_alloc_new w (.cells cs t))]
  simpa using hu
theorem cells_new_at (w : World) (b : Nat) (hb : b = w.heap.size) (cs : Array Value) (t : TypeId) (news : List Value) (hn : news = cs.toList) : ∀ (j : Nat) (u : Value), news[j]? = some u → (w.alloc (.cells cs t)).cell? ((⟨b, 0, none⟩ : Addr).add j) = some u := by
  subst hb hn
  exact cells_new w cs t
theorem below_dn {B : Nat} {w w1 : World} (h : Below B w w1) (n : Nat) : Below B w (w1.drewN n) := ⟨h.os, h.tape, h.output, h.size, h.block⟩
theorem below_own {B base : Nat} {e : TypeId} {size n : Nat} {v : Value} {xs : List Value} {w0 w w1 : World} (h : Below B w0 w) (hg : w.grownBy w1 v.ownBlock) (hB : B ≤ w.heap.size) (hown : w.ownsRow base e size v n xs) (hbase : B ≤ base) : Below B w0 w1 :=
  h.grown hg hB fun k hk => Nat.le_trans hbase (hown.lt k hk).1
end Go.Proofs.YtinjnclpiiohcaaDoor
namespace Go.Proofs.YtinjnclpiiohcaaDoor.Plain
def Lin (f : Nat → Nat) : Prop := ∀ a b, f (a ^^^ b) = f a ^^^ f b
theorem Lin.zero {f : Nat → Nat} (h : Lin f) : f 0 = 0 := by
  have := h 0 0
  simpa using this
theorem Lin.comp {f g : Nat → Nat} (hf : Lin f) (hg : Lin g) : Lin (fun x => f (g x)) := fun a b => by
  show f (g (a ^^^ b)) = _
  rw [hg, hf]
theorem Lin.xor {f g : Nat → Nat} (hf : Lin f) (hg : Lin g) : Lin (fun x => f x ^^^ g x) := fun a b => by
  show f (a ^^^ b) ^^^ g (a ^^^ b) = (f a ^^^ g a) ^^^ (f b ^^^ g b)
  rw [hf, hg]
  ac_rfl
theorem Lin.id : Lin (fun x => x) := fun _ _ => rfl
theorem Lin.shl (i : Nat) : Lin (fun x => x <<< i) := fun _ _ => Nat.shiftLeft_xor_distrib
theorem Lin.shr (i : Nat) : Lin (fun x => x >>> i) := fun _ _ => Nat.shiftRight_xor_distrib
theorem Lin.bit (i c : Nat) : Lin (fun x => bif x.testBit i then c else 0) := fun a b => by
  show (bif (a ^^^ b).testBit i then c else 0) = (bif a.testBit i then c else 0) ^^^ (bif b.testBit i then c else 0)
  rw [Nat.testBit_xor]
  cases a.testBit i <;> cases b.testBit i <;> simp
theorem xor_top {a n : Nat} (h : a < 2 ^ (n + 1)) (ht : a.testBit n = true) : a ^^^ 2 ^ n < 2 ^ n := by
  apply Nat.lt_pow_two_of_testBit
  intro i hi
  rw [Nat.testBit_xor]
  by_cases e : i = n
  · subst e; simp [ht]
  · have h1 : a.testBit i = false := Nat.testBit_lt_two_pow (Nat.lt_of_lt_of_le h (Nat.pow_le_pow_right (by omega) (by omega)))
    rw [h1, Nat.testBit_two_pow]
    simp; omega
theorem lt_of_top {a n : Nat} (h : a < 2 ^ (n + 1)) (ht : a.testBit n = false) : a < 2 ^ n := by
  apply Nat.lt_pow_two_of_testBit
  intro i hi
  by_cases e : i = n
  · subst e; exact ht
  · exact Nat.testBit_lt_two_pow (Nat.lt_of_lt_of_le h (Nat.pow_le_pow_right (by omega) (by omega)))
theorem lin_ext {f g : Nat → Nat} (hf : Lin f) (hg : Lin g) : ∀ n, (∀ i, i < n → f (2 ^ i) = g (2 ^ i)) → ∀ a, a < 2 ^ n → f a = g a := by
  intro n
  induction n with
  | zero =>
    intro _ a ha
    have : a = 0 := by omega
    rw [this, hf.zero, hg.zero]
  | succ n ih =>
    intro h a ha
    cases ht : a.testBit n with
    | false => exact ih (fun i hi => h i (by omega)) a (lt_of_top ha ht)
    | true =>
      have e : a = (a ^^^ 2 ^ n) ^^^ 2 ^ n := by rw [Nat.xor_assoc, Nat.xor_self, Nat.xor_zero]
      rw [e, hf, hg, h n (by omega), ih (fun i hi => h i (by omega)) _ (xor_top ha ht)]
end Go.Proofs.YtinjnclpiiohcaaDoor.Plain
namespace Go.Proofs.YtinjnclpiiohcaaDoor
theorem wraps_i64 (n : Int) (h₀ : 0 ≤ n) (h₁ : n < 2 ^ 63) : IntKind.i64.wrap n = n := by
  rw [IntKind.wrap_i64]; omega
theorem i64_and_nat (a b : Nat) (ha : a < 9223372036854775808) (hb : b < 9223372036854775808) : bits .and .i64 (a : Int) (b : Int) = ((a &&& b : Nat) : Int) :=
  (bits_nat .i64 63 (by decide) wraps_i64 a b ha hb).1
theorem i64_or_nat (a b : Nat) (ha : a < 9223372036854775808) (hb : b < 9223372036854775808) : bits .or .i64 (a : Int) (b : Int) = ((a ||| b : Nat) : Int) :=
  (bits_nat .i64 63 (by decide) wraps_i64 a b ha hb).2
theorem ret_int {k : IntKind} {a b : Int} (h : a = b) : Ending.returned (.int k a) = .returned (.int k b) := by rw [h]
theorem ret_bool {a b : Bool} (h : a = b) : Ending.returned (.bool a) = .returned (.bool b) := by rw [h]
theorem and1_nat (A : Nat) : (A &&& 1) = bif A.testBit 0 then 1 else 0 := by
  rw [Nat.and_one_is_mod, Nat.testBit_zero]
  by_cases h : A % 2 = 1
  · simp [h]
  · have : A % 2 = 0 := by omega
    simp [this]
theorem natEq {x y : Nat} (h : x = y) : ((x : Int) == (y : Int)) = true := by subst h; simp
theorem natNe {x y : Nat} (h : x = y) : ((x : Int) != (y : Int)) = false := by subst h; simp
theorem div_pow_nat (m v : Nat) : ((m : Int) / 2 ^ v) = ((m / 2 ^ v : Nat) : Int) := by simp
theorem testBit_and1 (m v : Nat) : (m / 2 ^ v) &&& 1 = bif m.testBit v then 1 else 0 := by
  rw [and1_nat, ← Nat.shiftRight_eq_div_pow, Nat.testBit_shiftRight]; rfl
theorem bit_u64 (m v : Nat) (h : m < 18446744073709551616) : bits .and .u64 ((m : Int) / 2 ^ v) 1 = ((bif m.testBit v then 1 else 0 : Nat) : Int) := by
  rw [div_pow_nat, ← testBit_and1]
  exact bits_and_u64_nat _ 1 (Nat.lt_of_le_of_lt (Nat.div_le_self _ _) h) (by decide)
theorem bit_u32 (m v : Nat) (h : m < 4294967296) : bits .and .u32 ((m : Int) / 2 ^ v) 1 = ((bif m.testBit v then 1 else 0 : Nat) : Int) := by
  rw [div_pow_nat, ← testBit_and1]
  exact u32_and_nat _ 1 (Nat.lt_of_le_of_lt (Nat.div_le_self _ _) h) (by decide)
theorem shl_u64 (c k : Nat) (h : c <<< k < 18446744073709551616) : IntKind.u64.wrap ((c : Int) * 2 ^ k) = ((c <<< k : Nat) : Int) := by
  rw [IntKind.wrap_u64, Nat.shiftLeft_eq]
  rw [Nat.shiftLeft_eq] at h
  have : ((c : Int) * 2 ^ k) = ((c * 2 ^ k : Nat) : Int) := by simp
  rw [this]
  omega
theorem byteOf {a : Int} (h : (Lit.int .u8 a).wf = true) : ∃ n : Nat, a = n ∧ n < 256 := by
  have hx : 0 ≤ a ∧ a ≤ 255 := by simpa [Lit.wf, IntKind.min, IntKind.max, IntKind.signed, IntKind.bits] using h
  exact ⟨a.toNat, by omega, by omega⟩
theorem u32Of {a : Int} (h : (Lit.int .u32 a).wf = true) : ∃ n : Nat, a = n ∧ n < 4294967296 := by
  have hx : 0 ≤ a ∧ a ≤ 4294967295 := by simpa [Lit.wf, IntKind.min, IntKind.max, IntKind.signed, IntKind.bits] using h
  exact ⟨a.toNat, by omega, by omega⟩
theorem u64Of {a : Int} (h : (Lit.int .u64 a).wf = true) : ∃ n : Nat, a = n ∧ n < 18446744073709551616 := by
  have hx : 0 ≤ a ∧ a ≤ 18446744073709551615 := by simpa [Lit.wf, IntKind.min, IntKind.max, IntKind.signed, IntKind.bits] using h
  exact ⟨a.toNat, by omega, by omega⟩
theorem i64Of {a : Int} (h : (Lit.int .i64 a).wf = true) : -9223372036854775808 ≤ a ∧ a ≤ 9223372036854775807 := by
  simpa [Lit.wf, IntKind.min, IntKind.max, IntKind.signed, IntKind.bits] using h
end Go.Proofs.YtinjnclpiiohcaaDoor
namespace Go.Proofs.YtinjnclpiiohcaaDoor
open Go.RowKit
def uV (n : Nat) : Value := .int .u64 (n : Int)
/-- a filter's cells -/
def uC (l : List Nat) : Array Value := (l.map uV).toArray
theorem uC_size (l : List Nat) : (uC l).size = l.length := by simp [uC]
def URow (w : World) (e : TypeId) (B : Nat) (l : List Nat) : Prop := w.heap[B]? = some (.cells (uC l) e (0, 0))
theorem URow.cell {w : World} {e : TypeId} {B : Nat} {l : List Nat} (h : URow w e B l) {k : Nat} (hk : k < l.length) : w.cell? ⟨B, k, none⟩ = some (.int .u64 ((l.getD k 0 : Nat) : Int)) := by
  rw [cell_of_row w B k _ e _ h]
  simp [uC, List.getElem?_map, List.getD_eq_getElem?_getD, List.getElem?_eq_getElem hk, uV]
theorem URow.frozen {w : World} {e : TypeId} {B : Nat} {l : List Nat} (h : URow w e B l) (k : Nat) : w.frozen? ⟨B, k, none⟩ = false := frozen_of_row w B k _ e h
theorem URow.drew {w : World} {e : TypeId} {B : Nat} {l : List Nat} (h : URow w e B l) : URow w.drew e B l := h
theorem URow.lt {w : World} {e : TypeId} {B : Nat} {l : List Nat} (h : URow w e B l) : B < w.heap.size := lt_of_block h
theorem URow.below {w w' : World} {e : TypeId} {B : Nat} {l : List Nat} (h : URow w e B l) (hb : Below w.heap.size w w') : URow w' e B l := (hb.block B h.lt).trans h
theorem URow.set {w : World} {e : TypeId} {B : Nat} {l : List Nat} (h : URow w e B l) (k v : Nat) : URow (w.setCell ⟨B, k, none⟩ (.int .u64 (v : Int))) e B (l.set k v) := by
  have := heap_setCell_same w B k _ e (.int .u64 (v : Int)) h
  unfold URow
  rw [this]
  simp [uC, List.map_set, uV]
theorem URow.new (w : World) (e : TypeId) (l : List Nat) : URow (w.alloc (.cells (uC l) e)) e w.heap.size l := heap_alloc_new w _
theorem URow.alloc {w : World} {e : TypeId} {B : Nat} {l : List Nat} (h : URow w e B l) (o : Obj) : URow (w.alloc o) e B l := (Below.heap_alloc w o B h.lt).trans h
theorem URow.other {w : World} {e : TypeId} {B : Nat} {l : List Nat} (h : URow w e B l) {a : Addr} (ha : B ≠ a.block) (v : Value) : URow (w.setCell a v) e B l := (heap_setCell_other w a B v ha).trans h
theorem heap_setCells (b : Nat) (t : TypeId) : ∀ (vs : List Value) (o : Nat) (w : World) (cs : Array Value), w.heap[b]? = some (.cells cs t (0, 0)) →
    ∃ cs', (w.setCells b o vs).heap[b]? = some (.cells cs' t (0, 0)) ∧ cs'.size = cs.size ∧ ∀ i, cs'[i]? = if o ≤ i ∧ i < o + vs.length ∧ i < cs.size then vs[i - o]? else cs[i]?
  | [], o, w, cs, h => ⟨cs, h, rfl, fun i => by rw [if_neg (by simp; omega)]⟩
  | v :: r, o, w, cs, h => by
    have h1 := heap_setCell_same w b o cs t v h
    obtain ⟨cs', h2, h3, h4⟩ := heap_setCells b t r (o + 1) (w.setCell ⟨b, o, none⟩ v) _ h1
    refine ⟨cs', h2, by rw [h3]; simp, fun i => ?_⟩
    rw [h4]
    simp only [Array.size_setIfInBounds, List.length_cons]
    by_cases hi : i = o
    · subst hi
      rw [if_neg (by omega)]
      by_cases hs : i < cs.size
      · rw [if_pos ⟨by omega, by omega, hs⟩]
        simp [hs]
      · rw [if_neg (by omega)]
        simp [hs]
    · by_cases hc : o + 1 ≤ i ∧ i < o + 1 + r.length ∧ i < cs.size
      · rw [if_pos hc, if_pos ⟨by omega, by omega, by omega⟩]
        rw [show i - o = (i - (o + 1)) + 1 by omega]
        rfl
      · rw [if_neg hc, if_neg (by omega)]
        rw [Array.getElem?_setIfInBounds]
        rw [if_neg (by omega)]
theorem heap_setCells_other (b k : Nat) (hk : k ≠ b) : ∀ (vs : List Value) (o : Nat) (w : World), (w.setCells b o vs).heap[k]? = w.heap[k]?
  | [], _, _ => rfl
  | v :: r, o, w => by
    have := heap_setCells_other b k hk r (o + 1) (w.setCell ⟨b, o, none⟩ v)
    exact this.trans (heap_setCell_other w ⟨b, o, none⟩ k v hk)
theorem URow.there {w : World} {e : TypeId} {B : Nat} {l : List Nat} (h : URow w e B l) : w.there B 0 l.length := fun j hj => by
  rw [Nat.zero_add, h.cell hj]
  exact ⟨rfl, h.frozen j⟩
/-- a whole row is stored -/
theorem URow.store {w : World} {e : TypeId} {B : Nat} {l : List Nat} (h : URow w e B l) (m : List Nat) (hm : m.length = l.length) : URow (w.setCells B 0 (uC m).toList) e B m := by
  obtain ⟨cs', h1, h2, h3⟩ := heap_setCells B e (uC m).toList 0 w (uC l) h
  unfold URow
  rw [h1]
  congr 2
  apply Array.ext
  · rw [h2, uC_size, uC_size, hm]
  · intro i hi1 hi2
    have := h3 i
    rw [uC_size] at hi2
    rw [if_pos ⟨by omega, by rw [Array.length_toList, uC_size]; omega, by rw [uC_size]; omega⟩, Array.getElem?_eq_getElem hi1] at this
    simp only [Nat.sub_zero, Array.getElem?_toList] at this
    rw [Array.getElem?_eq_getElem (by rw [uC_size]; exact hi2)] at this
    exact Option.some.inj this
theorem below_setCells {B b : Nat} (hb : B ≤ b) : ∀ (vs : List Value) (o : Nat) {w w1 : World}, Below B w w1 → Below B w (w1.setCells b o vs)
  | [], _, _, _, h => h
  | v :: r, o, _, _, h => below_setCells hb r (o + 1) (h.setCell (p := ⟨b, o, none⟩) hb v)
theorem uC_one (l : List Nat) : (uC l).all (·.oneCell') = true := by
  unfold uC
  apply all_oneCell_toArray
  intro v hv
  simp only [List.mem_map] at hv
  obtain ⟨n, _, rfl⟩ := hv
  rfl
end Go.Proofs.YtinjnclpiiohcaaDoor
namespace Go.Proofs.YtinjnclpiiohcaaDoor
open Go.RowKit
section
variable {P : Program} {ops : Array Oper} {Q : Exit → Act → World → Prop} {md : Region.Mode} {S : World → Prop}
/-- A load of a long array comes up first. -/
theorem take_row {fuel : Nat} {listed : Array Bool} {l : List Value} {df : List Deferred} {w : World} (i : Nat) {oi : Oper} {d : Nat} {ty : TypeId} {x : Operand} {b o : Nat} {cs : List Value} {ds : TypeDesc}
    (hi : ops[i]? = some oi) (hs : Region.noSelect ops = true) (hf : Region.free md ops listed i = true) (hr : (Region.ready md ops listed).contains i = true)
    (hQ : ∀ c a w v, Q (.panic c) (a.put oi.dst v) w → Q (.panic c) a w)
    (hw : Region.wanted oi (yielded ops l.toArray) = true) (hd : oi.dst = some d) (ho : oi.op = .load ty x) (hx : (Act.mk l.toArray df).eval x = .pointer (some ⟨b, o, none⟩))
    (hS' : ∀ w, S w → w.rangeAt b o cs) (hu : P.underlying ty = some ds) (hrow : ds.isRow = true) (hsz : (P.info? ty).map (·.size) = some cs.length) (hS : S w)
    (h : wpAnyH P md ops Q S fuel (listed.setIfInBounds i true) ⟨(l.set d (.agg cs.toArray)).toArray, df⟩ w) : wpAnyH P md ops Q S (fuel + 1) listed ⟨l.toArray, df⟩ w := by
  refine wpAnyH_take (i := i) (oi := oi) (v := .agg cs.toArray) hi hs hf hr (fun c a w => hQ c a w _) (yieldsIf_load_mid hw ty x ho b o hx cs ds hS' hu hrow hsz) hS ?_
  simpa only [hd, Act.put, List.setIfInBounds_toArray] using h
/-- An operation that is not wanted comes up first. -/
theorem take_not {fuel : Nat} {listed : Array Bool} {l : List Value} {df : List Deferred} {w : World} (i : Nat) {oi : Oper} {d : Nat}
    (hi : ops[i]? = some oi) (hs : Region.noSelect ops = true) (hf : Region.free md ops listed i = true) (hr : (Region.ready md ops listed).contains i = true)
    (hQ : ∀ c a w v, Q (.panic c) (a.put oi.dst v) w → Q (.panic c) a w)
    (hw : Region.wanted oi (yielded ops l.toArray) = false) (hd : oi.dst = some d) (hS : S w)
    (h : wpAnyH P md ops Q S fuel (listed.setIfInBounds i true) ⟨(l.set d undef).toArray, df⟩ w) : wpAnyH P md ops Q S (fuel + 1) listed ⟨l.toArray, df⟩ w := by
  refine wpAnyH_take (i := i) (oi := oi) (v := undef) hi hs hf hr (fun c a w => hQ c a w _) (Or.inr ⟨hw, rfl⟩) hS ?_
  simpa only [hd, Act.put, List.setIfInBounds_toArray] using h
/-- An operation whose value is the same in every world comes up first. -/
theorem take_val {fuel : Nat} {listed : Array Bool} {l : List Value} {df : List Deferred} {w : World} (i : Nat) {oi : Oper} {d : Nat} (v : Value)
    (hi : ops[i]? = some oi) (hs : Region.noSelect ops = true) (hf : Region.free md ops listed i = true) (hr : (Region.ready md ops listed).contains i = true)
    (hQ : ∀ c a w v, Q (.panic c) (a.put oi.dst v) w → Q (.panic c) a w)
    (hw : Region.wanted oi (yielded ops l.toArray) = true) (hd : oi.dst = some d) (hv : ∀ w, S w → (execOp (Act.mk l.toArray df).eval oi).run P w = .ok (.value v) w) (hS : S w)
    (h : wpAnyH P md ops Q S fuel (listed.setIfInBounds i true) ⟨(l.set d v).toArray, df⟩ w) : wpAnyH P md ops Q S (fuel + 1) listed ⟨l.toArray, df⟩ w := by
  refine wpAnyH_take (i := i) (oi := oi) (v := v) hi hs hf hr (fun c a w => hQ c a w _) (Or.inl ⟨hw, hv⟩) hS ?_
  simpa only [hd, Act.put, List.setIfInBounds_toArray] using h
/-- One operation alone is ready. -/
theorem one_ready {fuel : Nat} {listed : Array Bool} {a : Act} {w : World} (i : Nat) {o : Oper} (hr : Region.ready md ops listed = [i]) (ho : ops[i]? = some o)
    (hw : Region.wanted o (yielded ops a.tmps) = true)
    (h : ∀ K' : Act → World → Prop, Hid (∀ a w, S w → wpAnyH P md ops Q S fuel (listed.setIfInBounds i true) a w → K' a w) → Oper.wp P o a w K' Q) : wpAnyH P md ops Q S (fuel + 1) listed a w := by
  refine wpAnyH_ready hr (by simp) (AllReadyH.cons ho (fun K hK => ?_) AllReadyH.nil)
  rw [if_pos hw]
  exact h K (Lib.hid fun a w hS hx => hK.out a w hS fun _ => hx)
/-- Two operations are ready. -/
theorem two_ready {fuel : Nat} {listed : Array Bool} {a : Act} {w : World} (i j : Nat) {o p : Oper} (hr : Region.ready md ops listed = [i, j]) (ho : ops[i]? = some o) (hp : ops[j]? = some p)
    (hw : Region.wanted o (yielded ops a.tmps) = true) (hw2 : Region.wanted p (yielded ops a.tmps) = true)
    (h : ∀ K' : Act → World → Prop, Hid (∀ a w, S w → wpAnyH P md ops Q S fuel (listed.setIfInBounds i true) a w → K' a w) → Oper.wp P o a w K' Q)
    (h2 : ∀ K' : Act → World → Prop, Hid (∀ a w, S w → wpAnyH P md ops Q S fuel (listed.setIfInBounds j true) a w → K' a w) → Oper.wp P p a w K' Q) : wpAnyH P md ops Q S (fuel + 1) listed a w := by
  refine wpAnyH_ready hr (by simp) (AllReadyH.cons ho (fun K hK => ?_) (AllReadyH.cons hp (fun K hK => ?_) AllReadyH.nil))
  · rw [if_pos hw]
    exact h K (Lib.hid fun a w hS hx => hK.out a w hS fun _ => hx)
  · rw [if_pos hw2]
    exact h2 K (Lib.hid fun a w hS hx => hK.out a w hS fun _ => hx)
/-- What an operation that yields a value leaves to be shown. -/
theorem put_eq {l : List Value} {df : List Deferred} {o : Oper} {d : Nat} {v : Value} (hd : o.dst = some d) : (Act.mk l.toArray df).put o.dst v = ⟨(l.set d v).toArray, df⟩ := by
  simp only [hd, Act.put, List.setIfInBounds_toArray]
end
end Go.Proofs.YtinjnclpiiohcaaDoor
namespace Go.Proofs.YtinjnclpiiohcaaDoor
open Go.RowKit
theorem setCells_frame (b : Nat) : ∀ (vs : List Value) (o : Nat) (w : World), w.setCells b o vs = { w with heap := (w.setCells b o vs).heap } ∧ (w.setCells b o vs).heap.size = w.heap.size
  | [], _, _ => ⟨rfl, rfl⟩
  | v :: r, o, w => by
    obtain ⟨h, h2⟩ := setCells_frame b r (o + 1) (w.setCell ⟨b, o, none⟩ v)
    refine ⟨h, ?_⟩
    show ((w.setCell ⟨b, o, none⟩ v).setCells b (o + 1) r).heap.size = _
    rw [h2]
    simp [World.setCell]
theorem setCells_full {w : World} {b : Nat} {t : TypeId} {Z : Array Value} (hz : w.heap[b]? = some (.cells Z t (0, 0))) (cs : Array Value) (h : cs.size = Z.size) :
    (w.setCells b 0 cs.toList).heap[b]? = some (.cells cs t (0, 0)) := by
  obtain ⟨cs', h2, h3, h4⟩ := heap_setCells b t cs.toList 0 w Z hz
  rw [h2]
  congr 2
  apply Array.ext_getElem?
  intro i
  rw [h4]
  by_cases hi : i < Z.size
  · rw [if_pos ⟨Nat.zero_le _, by rw [Array.length_toList]; omega, hi⟩]
    simp
  · rw [if_neg (fun hc => hi hc.2.2)]
    rw [Array.getElem?_eq_none (by omega), Array.getElem?_eq_none (by omega)]
theorem alloc_setCells (w : World) (ty : TypeId) (Z cs : Array Value) (h : cs.size = Z.size) : (w.alloc (.cells Z ty)).setCells w.heap.size 0 cs.toList = w.alloc (.cells cs ty) := by
  obtain ⟨e, es⟩ := setCells_frame w.heap.size cs.toList 0 (w.alloc (.cells Z ty))
  have hf := setCells_full (heap_alloc_new w (.cells Z ty)) cs h
  have ho := fun k hk => heap_setCells_other w.heap.size k hk cs.toList 0 (w.alloc (.cells Z ty))
  generalize ((w.alloc (.cells Z ty)).setCells w.heap.size 0 cs.toList) = w2 at *
  have hh : w2.heap = (w.alloc (.cells cs ty)).heap := by
    apply Array.ext_getElem?
    intro k
    by_cases hk : k = w.heap.size
    · subst hk
      rw [hf]
      exact (heap_alloc_new w (.cells cs ty)).symm
    · rw [ho k hk]
      show (w.heap.push _)[k]? = (w.heap.push _)[k]?
      rw [Array.getElem?_push, Array.getElem?_push, if_neg (by omega), if_neg (by omega)]
  rw [e, hh]
  rfl
/-- The arm for the store: the block was the last one made. -/
theorem wpList_store_new {P : Program} {ops : Array Oper} {rest : List Oper} {op : Oper} {a : Act} {w : World} {Q : Exit → Act → World → Prop} {Z : Array Value} {bt : TypeId} (hgd : op.guard = none) (ty : TypeId) (x y : Operand) (ho : op.op = .store ty x y)
    (n : Nat) (cells : Array Value) (hx : a.eval x = .pointer (some ⟨n, 0, none⟩)) (hy : a.eval y = .agg cells)
    (hz : cells.size = Z.size) (hi : (P.info? ty).map (·.size) = some cells.size) (h1 : cells.all (·.oneCell') = true) (hn : n = w.heap.size)
    (h : wpList P ops Q rest (a.put op.dst undef) (w.alloc (.cells cells bt))) : wpList P ops Q (op :: rest) a (w.alloc (.cells Z bt)) := by
  subst hn
  refine wpList_store_mid hgd ty x y ho w.heap.size 0 cells hx hy ?_ hi h1 ?_
  · intro j hj
    rw [Nat.zero_add]
    have hb := heap_alloc_new w (.cells Z bt)
    refine ⟨?_, frozen_of_row _ _ _ _ _ hb⟩
    rw [cell_of_row _ _ _ _ _ _ hb, Array.getElem?_eq_getElem (by omega)]
    rfl
  · rw [alloc_setCells w bt Z cells hz]
    exact h
theorem bC_one (l : List Nat) : ((l.map bV).toArray).all (·.oneCell') = true := by
  apply Array.all_eq_true_iff_forall_mem.2
  intro v hv
  simp only [List.mem_toArray, List.mem_map] at hv
  obtain ⟨n, _, rfl⟩ := hv
  rfl
end Go.Proofs.YtinjnclpiiohcaaDoor
namespace Go.Proofs.YtinjnclpiiohcaaDoor
open Go.RowKit
theorem byte_at2 (s : ByteArray) (k : Nat) (h : k < s.size) : (s[k]).toNat = (strN s).getD k 0 := by
  rw [← strN_getD, List.getD_eq_getElem?_getD, List.getElem?_eq_getElem (by rw [Array.length_toList]; exact h)]
  rfl
/-- block B begins with the bytes l, which may be written -/
def CRow (w : World) (B : Nat) (l : List Nat) : Prop := ∃ (C : Array Value) (t : TypeId) (lo hi : Nat), w.heap[B]? = some (.cells C t (lo, hi)) ∧ l.length ≤ lo ∧ ∀ j, j < l.length → C[j]? = some (.int .u8 ((l.getD j 0 : Nat) : Int))
theorem CRow.cell {w : World} {B : Nat} {l : List Nat} (h : CRow w B l) {k : Nat} (hk : k < l.length) : w.cell? ⟨B, k, none⟩ = some (.int .u8 ((l.getD k 0 : Nat) : Int)) := by
  obtain ⟨C, t, lo, hi, h1, h2, h3⟩ := h
  simp [World.cell?, h1, h3 k hk]
theorem CRow.frozen {w : World} {B : Nat} {l : List Nat} (h : CRow w B l) {k : Nat} (hk : k < l.length) : w.frozen? ⟨B, k, none⟩ = false := by
  obtain ⟨C, t, lo, hi, h1, h2, h3⟩ := h
  simp only [World.frozen?, h1]
  have : decide (lo ≤ k) = false := decide_eq_false (by omega)
  simp [this]
theorem CRow.lt {w : World} {B : Nat} {l : List Nat} (h : CRow w B l) : B < w.heap.size := by
  obtain ⟨C, t, lo, hi, h1, _⟩ := h
  exact lt_of_block h1
theorem CRow.below {w w' : World} {B : Nat} {l : List Nat} (h : CRow w B l) (hb : Below w.heap.size w w') : CRow w' B l := by
  obtain ⟨C, t, lo, hi, h1, h2, h3⟩ := h
  exact ⟨C, t, lo, hi, (hb.block B (lt_of_block h1)).trans h1, h2, h3⟩
theorem CRow.drew {w : World} {B : Nat} {l : List Nat} (h : CRow w B l) : CRow w.drew B l := h
theorem CRow.bytes {w : World} {B : Nat} {l : List Nat} (h : CRow w B l) (s : ByteArray) (hs : strN s = l) : Lib.Bytes w B 0 s := by
  intro i hi
  subst hs
  have := h.cell (k := i) (by rw [strN_length]; exact hi)
  rw [Nat.zero_add, this, byte_at2]
theorem CRow.set {w : World} {B : Nat} {l : List Nat} (h : CRow w B l) (k v : Nat) : CRow (w.setCell ⟨B, k, none⟩ (.int .u8 (v : Int))) B (l.set k v) := by
  obtain ⟨C, t, lo, hi, h1, h2, h3⟩ := h
  refine ⟨C.setIfInBounds k (.int .u8 (v : Int)), t, lo, hi, ?_, by rw [List.length_set]; exact h2, ?_⟩
  · simp only [World.setCell, Array.getElem?_modify, h1]
    simp
  · intro j hj
    rw [List.length_set] at hj
    rw [Array.getElem?_setIfInBounds]
    have hjc := h3 j hj
    have hjs : j < C.size := by
      rcases Nat.lt_or_ge j C.size with h | h
      · exact h
      · rw [Array.getElem?_eq_none h] at hjc; cases hjc
    by_cases e : k = j
    · subst e
      simp [hjs, List.getD_eq_getElem?_getD, hj]
    · rw [if_neg e, hjc, List.getD_eq_getElem?_getD, List.getD_eq_getElem?_getD, List.getElem?_set_ne e]
theorem crow_bytes (w : World) (e : TypeId) (s : ByteArray) : CRow (Lib.bytesWorld w e s) w.heap.size (strN s) := by
  have h := Lib.bytesWorld_at_new w e s
  have hc := fun j hj => bytesWorld_cellN w e s j hj
  have hcc : ∀ j, j < s.size → (Lib.bytesCells w e s)[j]? = some (.int .u8 (((strN s).getD j 0 : Nat) : Int)) := by
    intro j hj
    have := hc j hj
    simp only [World.cell?, h] at this
    simpa using this
  refine ⟨_, _, _, _, h, ?_, fun j hj => hcc j (by rw [strN_length] at hj; exact hj)⟩
  rw [strN_length]
  rcases Nat.lt_or_ge (Lib.bytesCells w e s).size s.size with hlt | hge
  · have := hcc (Lib.bytesCells w e s).size hlt
    rw [Array.getElem?_eq_none (Nat.le_refl _)] at this
    cases this
  · exact hge
end Go.Proofs.YtinjnclpiiohcaaDoor
namespace Go.Proofs.YtinjnclpiiohcaaDoor
open Go.RowKit
section
variable {P : Program} {ops : Array Oper} {Q : Exit → Act → World → Prop} {md : Region.Mode}
/-- an operation runs alike in two states that agree on what it looks at -/
theorem wp_agree {o : Oper} {a b : Act} {w : World} {K K2 : Act → World → Prop} (hs : ∀ cs b, o.op ≠ .select cs b) (he : ∀ x ∈ o.op.operands, a.eval x = b.eval x)
    (hQ : ∀ c w, Q (.panic c) b w → Q (.panic c) a w) (hK : ∀ v w', K2 (b.put o.dst v) w' → K (a.put o.dst v) w') (hD : ∀ d w', ¬ K2 (({ b with defers := d :: b.defers } : Act).put o.dst undef) w')
    (h : o.wp P b w K2 Q) : o.wp P a w K Q := by
  unfold Oper.wp at *
  rw [execOp_congr o hs he]
  generalize (execOp b.eval o).run P w = r at *
  cases r with
  | ok n w' =>
    cases n <;> simp only [Oper.upon] at h ⊢
    case value u => exact hK _ _ h
    case skip => exact hK _ _ h
    case defer d => exact (hD d _ h).elim
    case enter f args =>
      refine Calls.mono h fun e w'' he => ?_
      cases e with
      | returned u => exact hK _ _ he
      | panicked c => exact hQ _ _ he
      | outgrown => exact he
    case row row args => exact Rows.mono h fun u w'' he => hK _ _ he
  | halt x w' =>
    cases x <;> simp only [Oper.upon] at h ⊢
    case panic u => exact hQ _ _ h
theorem count_less (p q : Nat → Bool) (i : Nat) (hp : p i = true) (hq : q i = false) (h : ∀ j, j ≠ i → q j = p j) : ∀ n, i < n → (List.range n).countP q + 1 = (List.range n).countP p
  | 0, hi => absurd hi (Nat.not_lt_zero _)
  | n + 1, hi => by
    rw [List.range_succ, List.countP_append, List.countP_append]
    by_cases e : i = n
    · subst e
      have h1 : (List.range i).countP q = (List.range i).countP p := by
        apply List.countP_congr
        intro j hj
        rw [List.mem_range] at hj
        rw [h j (by omega)]
      rw [h1]
      simp [hp, hq]
    · have ih := count_less p q i hp hq h n (by omega)
      simp only [List.countP_cons, List.countP_nil, h n (fun x => e x.symm)]
      omega
/-- how many are not listed -/
def unl (ops : Array Oper) (listed : Array Bool) : Nat := (List.range ops.size).countP fun i => !listed.getD i true
theorem getD_set_self {l : Array Bool} {i : Nat} : (l.setIfInBounds i true).getD i true = true := by
  rw [Array.getD_eq_getD_getElem?, Array.getElem?_setIfInBounds_self]
  split <;> rfl
theorem getD_set_other {l : Array Bool} {i j : Nat} (d : Bool) (h : i ≠ j) : (l.setIfInBounds i true).getD j d = l.getD j d := by
  simp [Array.getElem?_setIfInBounds_ne h]
theorem unl_set {listed : Array Bool} {i : Nat} (hi : i < ops.size) (h : listed.getD i true = false) : unl ops (listed.setIfInBounds i true) + 1 = unl ops listed :=
  count_less _ _ i (by simp only [h, Bool.not_false]) (by simp only [getD_set_self, Bool.not_true]) (fun j hj => by simp only [getD_set_other true (Ne.symm hj)]) _ hi
/-- what an operation looks at is written by no other operation that may still come, or by one that it waits for -/
def depOk (md : Region.Mode) (ops : Array Oper) (listed0 : Array Bool) : Bool :=
  (List.range ops.size).all fun i => listed0.getD i true || match ops[i]? with
    | none => true
    | some o => (o.looksAt ops).all (fun t => (List.range ops.size).all fun j => listed0.getD j true || (match ops[j]? with
      | none => true
      | some p => p.dst != some t || o.after.any fun e => Region.binds md e && e.on == j)) && o.after.all fun e => decide (e.on < i)
theorem depOk_spec {listed0 : Array Bool} (h : depOk md ops listed0 = true) {i : Nat} {o : Oper} (hi : ops[i]? = some o) (hl : listed0.getD i true = false) :
    (∀ t ∈ o.looksAt ops, ∀ j p, ops[j]? = some p → listed0.getD j true = false → p.dst = some t → ∃ e ∈ o.after, Region.binds md e = true ∧ e.on = j) ∧ ∀ e ∈ o.after, e.on < i := by
  have lt : ∀ {k : Nat} {p : Oper}, ops[k]? = some p → k < ops.size := fun hk => by
    rcases Nat.lt_or_ge _ ops.size with h | h
    · exact h
    · rw [Array.getElem?_eq_none h] at hk; cases hk
  unfold depOk at h
  rw [List.all_eq_true] at h
  have h1 := h i (List.mem_range.2 (lt hi))
  simp only [hl, hi, Bool.false_or, Bool.and_eq_true, List.all_eq_true, Array.all_eq_true_iff_forall_mem, decide_eq_true_eq] at h1
  refine ⟨fun t ht j p hj hjl hd => ?_, h1.2⟩
  have h2 := h1.1 t ht j (List.mem_range.2 (lt hj))
  simp only [hjl, hj, hd, Bool.false_or, bne_self_eq_false] at h2
  rw [Array.any_eq_true] at h2
  obtain ⟨k, hk, h3⟩ := h2
  rw [Bool.and_eq_true, beq_iff_eq] at h3
  exact ⟨_, Array.getElem_mem hk, h3.1, h3.2⟩
/-- with an operation all that it waits for is listed -/
def Closed (md : Region.Mode) (ops : Array Oper) (listed : Array Bool) : Prop := ∀ i o, ops[i]? = some o → listed.getD i false = true → ∀ e ∈ o.after, Region.binds md e = true → listed.getD e.on false = true
def closedOk (md : Region.Mode) (ops : Array Oper) (listed : Array Bool) : Bool := (List.range ops.size).all fun i => match ops[i]? with
  | none => true
  | some o => !listed.getD i false || o.after.all fun e => !Region.binds md e || listed.getD e.on false
theorem closedOk_spec {listed : Array Bool} (h : closedOk md ops listed = true) : Closed md ops listed := by
  intro i o ho hl e he hb
  unfold closedOk at h
  rw [List.all_eq_true] at h
  have hlt : i < ops.size := by
    rcases Nat.lt_or_ge i ops.size with h | h
    · exact h
    · rw [Array.getElem?_eq_none h] at ho; cases ho
  have h1 := h i (List.mem_range.2 hlt)
  simp only [ho, hl, Bool.not_true, Bool.false_or, Array.all_eq_true_iff_forall_mem] at h1
  have h2 := h1 e he
  simpa [hb] using h2
theorem Closed.set {listed : Array Bool} {i : Nat} {o : Oper} (h : Closed md ops listed) (ho : ops[i]? = some o) (ha : ∀ e ∈ o.after, Region.binds md e = true → listed.getD e.on false = true) : Closed md ops (listed.setIfInBounds i true) := by
  intro j p hp hl e he hb
  have up : ∀ k, listed.getD k false = true → (listed.setIfInBounds i true).getD k false = true := fun k hk => by
    rw [Array.getD_eq_getD_getElem?] at hk ⊢
    by_cases e : i = k
    · subst e
      rw [Array.getElem?_setIfInBounds_self]
      split
      · rfl
      · rename_i h1
        rw [Array.getElem?_eq_none (by omega)] at hk; exact hk
    · rw [Array.getElem?_setIfInBounds_ne e]; exact hk
  by_cases ej : i = j
  · subst ej
    rw [ho] at hp
    cases hp
    exact up _ (ha e he hb)
  · rw [getD_set_other false ej] at hl
    exact up _ (h j p hp hl e he hb)
/-- k is waited for by i, by one road or another -/
def anc (md : Region.Mode) (ops : Array Oper) : Nat → Nat → Nat → Bool
  | 0, _, _ => false
  | n + 1, i, k => match ops[i]? with
    | none => false
    | some o => o.after.any fun e => Region.binds md e && (e.on == k || anc md ops n e.on k)
theorem anc_listed {listed : Array Bool} (hc : Closed md ops listed) {k : Nat} : ∀ (n i : Nat) (o : Oper), ops[i]? = some o → (∀ e ∈ o.after, Region.binds md e = true → listed.getD e.on false = true) → anc md ops n i k = true → listed.getD k false = true
  | 0, _, _, _, _, h => by cases h
  | n + 1, i, o, ho, ha, h => by
    unfold anc at h
    rw [ho] at h
    simp only at h
    rw [Array.any_eq_true] at h
    obtain ⟨j, hj, h1⟩ := h
    rw [Bool.and_eq_true, Bool.or_eq_true, beq_iff_eq] at h1
    have h2 := ha _ (Array.getElem_mem hj) h1.1
    rcases h1.2 with h3 | h3
    · rw [← h3]; exact h2
    · cases hp : ops[(o.after[j]).on]? with
      | none =>
        cases n with
        | zero => cases h3
        | succ n => unfold anc at h3; rw [hp] at h3; cases h3
      | some p => exact anc_listed hc n _ p hp (hc _ p hp h2) h3
/-- one operation's obligation: it yields what the state that is known ahead has, behind it S holds -/
def Good (P : Program) (ops : Array Oper) (Q : Exit → Act → World → Prop) {γ : Type} (S : Array Bool → γ → World → Prop) (A : γ → Array Value) (df : List Deferred) (i : Nat) (o : Oper) (listed : Array Bool) (g : γ) (w : World) : Prop :=
  (Region.wanted o (yielded ops (A g)) = true ∧ o.wp P ⟨A g, df⟩ w (fun a2 w' => ∃ g', S (listed.setIfInBounds i true) g' w' ∧ a2.defers = df ∧ (∀ d, o.dst = some d → a2.tmps[d]? = (A g')[d]? ∧ d < (A g).size) ∧ (A g').size = (A g).size ∧ ∀ t, o.dst ≠ some t → (∀ j p, ops[j]? = some p → listed.getD j true = false → p.dst ≠ some t) → (A g')[t]? = (A g)[t]?) Q) ∨
  (Region.wanted o (yielded ops (A g)) = false ∧ S (listed.setIfInBounds i true) g w ∧ ∀ d, o.dst = some d → (A g)[d]? = some undef)
theorem wpAnyH_det {γ : Type} (S : Array Bool → γ → World → Prop) (A : γ → Array Value) {Sx : World → Prop} {df : List Deferred} {listed0 : Array Bool}
    (hsel : Region.noSelect ops = true) (hdep : depOk md ops listed0 = true) (hQ : ∀ c a b w, Q (.panic c) a w → Q (.panic c) b w) (hSx : ∀ listed g w, S listed g w → Sx w)
    (hop : ∀ i o, ops[i]? = some o → listed0.getD i true = false → ∀ listed g w, (∀ e ∈ o.after, Region.binds md e = true → listed.getD e.on false = true) → Closed md ops listed → listed.size = ops.size → listed.getD i true = false → S listed g w → Good P ops Q S A df i o listed g w)
    (hend : ∀ listed g w, (∀ i o, ops[i]? = some o → listed.getD i false = true) → S listed g w → Q .normal ⟨A g, df⟩ w) :
    ∀ (fuel : Nat) (listed : Array Bool) (g : γ) (a : Act) (w : World), (∀ i, listed0.getD i true = true → listed.getD i true = true) → unl ops listed ≤ fuel → listed.size = ops.size → Closed md ops listed → S listed g w → a.defers = df → a.tmps.size = (A g).size →
      (∀ t, (∀ i o, ops[i]? = some o → listed.getD i true = false → o.dst ≠ some t) → a.tmps[t]? = (A g)[t]?) → wpAnyH P md ops Q Sx fuel listed a w := by
  have lt : ∀ {k : Nat} {p : Oper}, ops[k]? = some p → k < ops.size := fun hk => by
    rcases Nat.lt_or_ge _ ops.size with h | h
    · exact h
    · rw [Array.getElem?_eq_none h] at hk; cases hk
  have fin : ∀ (listed : Array Bool) (g : γ) (a : Act) (w : World), (∀ i, listed0.getD i true = true → listed.getD i true = true) → listed.size = ops.size → Region.ready md ops listed = [] → S listed g w → a.defers = df → a.tmps.size = (A g).size →
      (∀ t, (∀ i o, ops[i]? = some o → listed.getD i true = false → o.dst ≠ some t) → a.tmps[t]? = (A g)[t]?) → Q .normal a w := by
    intro listed g a w hge hlsz hr hS hdf hsz hag
    have hall : ∀ i, ∀ o, ops[i]? = some o → listed.getD i true = true := by
      intro i
      induction i using Nat.strongRecOn with
      | _ i ih =>
        intro o ho
        cases hli : listed.getD i true with
        | true => rfl
        | false =>
          exfalso
          have hl0 : listed0.getD i true = false := by
            cases h0 : listed0.getD i true with
            | false => rfl
            | true => rw [hge i h0] at hli; cases hli
          have hm : i ∈ Region.ready md ops listed := mem_ready.2 ⟨hli, o, ho, fun e he hb => by
            have hlt := (depOk_spec hdep ho hl0).2 e he
            obtain ⟨p, hp⟩ : ∃ p, ops[e.on]? = some p := ⟨_, Array.getElem?_eq_getElem (Nat.lt_trans hlt (lt ho))⟩
            have h1 := ih e.on hlt p hp
            have hsz2 : e.on < listed.size := by
              rcases Nat.lt_or_ge i listed.size with h | h
              · exact Nat.lt_trans hlt h
              · rw [Array.getD_eq_getD_getElem?, Array.getElem?_eq_none h] at hli; cases hli
            rw [Array.getD_eq_getD_getElem?, Array.getElem?_eq_getElem hsz2] at h1 ⊢
            exact h1⟩
          rw [hr] at hm
          cases hm
    have ha : a = ⟨A g, df⟩ := by
      obtain ⟨ts, ds⟩ := a
      simp only at hdf hsz hag
      subst hdf
      congr 1
      apply Array.ext_getElem?
      intro t
      exact hag t (fun i o ho hl => by rw [hall i o ho] at hl; cases hl)
    rw [ha]
    refine hend listed g w (fun i o ho => ?_) hS
    have h1 := hall i o ho
    have h2 : i < listed.size := by rw [hlsz]; exact lt ho
    rw [Array.getD_eq_getD_getElem?, Array.getElem?_eq_getElem h2] at h1 ⊢
    exact h1
  intro fuel
  induction fuel with
  | zero =>
    intro listed g a w hge hu hlsz hcl hS hdf hsz hag
    have hr : Region.ready md ops listed = [] := by
      cases hr : Region.ready md ops listed with
      | nil => rfl
      | cons i r =>
        exfalso
        have hm : i ∈ Region.ready md ops listed := by rw [hr]; exact List.mem_cons_self
        obtain ⟨h1, o, ho, _⟩ := mem_ready.1 hm
        have := unl_set (lt ho) h1
        omega
    exact ⟨hr, fin listed g a w hge hlsz hr hS hdf hsz hag⟩
  | succ fuel ih =>
    intro listed g a w hge hu hlsz hcl hS hdf hsz hag
    refine ⟨fun hr => fin listed g a w hge hlsz hr hS hdf hsz hag, fun i hi => ?_⟩
    obtain ⟨hli, o, ho, haft⟩ := mem_ready.1 hi
    have hl0 : listed0.getD i true = false := by
      cases h0 : listed0.getD i true with
      | false => rfl
      | true => rw [hge i h0] at hli; cases hli
    have hd := (depOk_spec hdep ho hl0).1
    have hlook : ∀ t ∈ o.looksAt ops, a.tmps[t]? = (A g)[t]? := fun t ht => hag t fun j p hj hjl hdst => by
      have hj0 : listed0.getD j true = false := by
        cases h0 : listed0.getD j true with
        | false => rfl
        | true => rw [hge j h0] at hjl; cases hjl
      obtain ⟨e, he, hb, hon⟩ := hd t ht j p hj hj0 hdst
      have h1 := haft e he hb
      rw [hon] at h1
      rw [Array.getD_eq_getD_getElem?] at h1 hjl
      cases hx : listed[j]? with
      | none => rw [hx] at h1; cases h1
      | some b => rw [hx] at h1 hjl; simp only [Option.getD_some] at h1 hjl; rw [h1] at hjl; cases hjl
    have heval : ∀ x ∈ o.op.operands, a.eval x = (Act.mk (A g) df).eval x := fun x hx => by
      cases x with
      | tmp t =>
        have := hlook t (by unfold Oper.looksAt; exact List.mem_append_left _ (List.mem_filterMap.2 ⟨.tmp t, by simpa using hx, rfl⟩))
        simp only [Act.eval, Array.getD_eq_getD_getElem?, this]
      | _ => rfl
    have hwant : Region.wanted o (yielded ops a.tmps) = Region.wanted o (yielded ops (A g)) := by
      unfold Region.wanted
      cases hg : o.guard with
      | none => rfl
      | some gw =>
        obtain ⟨k, want⟩ := gw
        simp only
        have : yielded ops a.tmps k = yielded ops (A g) k := by
          unfold yielded
          cases hk : (ops[k]?).bind (·.dst) with
          | none => rfl
          | some t =>
            have := hlook t (by unfold Oper.looksAt; rw [hg]; simp only [hk]; exact List.mem_append_right _ (by simp))
            simp only [Option.bind_some, this]
        rw [this]
    have next : ∀ g' a' w', S (listed.setIfInBounds i true) g' w' → a'.defers = df → a'.tmps.size = (A g').size → (∀ t, (∀ j p, ops[j]? = some p → (listed.setIfInBounds i true).getD j true = false → p.dst ≠ some t) → a'.tmps[t]? = (A g')[t]?) → Sx w' ∧ wpAnyH P md ops Q Sx fuel (listed.setIfInBounds i true) a' w' := by
      intro g' a' w' h1 h2 h3 h4
      refine ⟨hSx _ _ _ h1, ih _ g' a' w' (fun j hj => ?_) ?_ (by rw [Array.size_setIfInBounds]; exact hlsz) (hcl.set ho haft) h1 h2 h3 h4⟩
      · by_cases e : i = j
        · subst e; exact getD_set_self
        · rw [getD_set_other true e]; exact hge j hj
      · have := unl_set (lt ho) hli
        omega
    have agree : ∀ g' v, (∀ d, o.dst = some d → (some v = (A g')[d]?) ∧ d < (A g).size) → (A g').size = (A g).size → (∀ t, o.dst ≠ some t → (∀ j p, ops[j]? = some p → listed.getD j true = false → p.dst ≠ some t) → (A g')[t]? = (A g)[t]?) →
        ∀ t, (∀ j p, ops[j]? = some p → (listed.setIfInBounds i true).getD j true = false → p.dst ≠ some t) → (a.put o.dst v).tmps[t]? = (A g')[t]? := by
      intro g' v h1 _ h3 t ht
      by_cases e : o.dst = some t
      · have h5 := h1 t e
        rw [← h5.1]
        simp only [Act.put, e, Array.getElem?_setIfInBounds_self, hsz]
        rw [if_pos h5.2]
      · have h7 : ∀ j p, ops[j]? = some p → listed.getD j true = false → p.dst ≠ some t := fun j p hj hjl => by
          by_cases ej : i = j
          · subst ej; rw [ho] at hj; cases hj; exact e
          · exact ht j p hj (by rw [getD_set_other true ej]; exact hjl)
        have h6 : a.tmps[t]? = (A g)[t]? := hag t h7
        rw [h3 t e h7, ← h6]
        cases hdst : o.dst with
        | none => rfl
        | some d =>
          have : d ≠ t := fun x => e (by rw [hdst, x])
          simp [Act.put, Array.getElem?_setIfInBounds_ne this]
    have size_put : ∀ v, (a.put o.dst v).tmps.size = a.tmps.size := fun v => by cases o.dst <;> simp [Act.put]
    have defers_put : ∀ v, (a.put o.dst v).defers = a.defers := fun v => by cases o.dst <;> rfl
    unfold wpOp
    simp only [ho]
    rcases hop i o ho hl0 listed g w haft hcl hlsz hli hS with ⟨hw, hwp⟩ | ⟨hw, hS', hu2⟩
    · rw [hwant, hw, if_pos rfl]
      refine .inl (wp_agree (Region.noSelect_spec hsel i o · · ho) heval (fun c w => hQ c _ _ w) (fun v w' hk => ?_) (fun d w' hk => ?_) hwp)
      · obtain ⟨g', k1, _, k3, k4, k5⟩ := hk
        refine next g' _ w' k1 (by rw [defers_put, hdf]) (by rw [size_put, hsz, k4]) (agree g' v (fun d hd' => ?_) k4 k5)
        have k6 := k3 d hd'
        refine ⟨?_, k6.2⟩
        rw [← k6.1]
        simp only [Act.put, hd', Array.getElem?_setIfInBounds_self]
        rw [if_pos k6.2]
      · obtain ⟨g', _, k2, _⟩ := hk
        have : (({ (Act.mk (A g) df) with defers := d :: df } : Act).put o.dst undef).defers = d :: df := by cases o.dst <;> rfl
        rw [this] at k2
        exact absurd (congrArg List.length k2) (by simp)
    · rw [hwant, hw]
      simp only [Bool.false_eq_true, if_false]
      refine next g _ w hS' (by rw [defers_put, hdf]) (by rw [size_put, hsz]) (agree g undef (fun d hd' => ⟨(hu2 d hd').symm, ?_⟩) rfl (fun _ _ _ => rfl))
      have := hu2 d hd'
      rcases Nat.lt_or_ge d (A g).size with h | h
      · exact h
      · rw [Array.getElem?_eq_none h] at this; cases this
end
end Go.Proofs.YtinjnclpiiohcaaDoor
namespace Go.Proofs.YtinjnclpiiohcaaDoor
open Go.RowKit
def setAll (l : List Value) (vs : List (Nat × Value)) : List Value := vs.foldl (fun l p => l.set p.1 p.2) l
theorem setAll_length : ∀ (vs : List (Nat × Value)) (l : List Value), (setAll l vs).length = l.length
  | [], _ => rfl
  | p :: vs, l => by
    show (setAll (l.set p.1 p.2) vs).length = _
    rw [setAll_length vs, List.length_set]
theorem setAll_get : ∀ (vs : List (Nat × Value)) (l : List Value) (t : Nat), (∀ p ∈ vs, p.1 ≠ t) → (setAll l vs)[t]? = l[t]?
  | [], _, _, _ => rfl
  | p :: vs, l, t, h => by
    show (setAll (l.set p.1 p.2) vs)[t]? = _
    rw [setAll_get vs _ t (fun q hq => h q (List.mem_cons_of_mem _ hq)), List.getElem?_set_ne (h p List.mem_cons_self)]
theorem setAll_other : ∀ (vs : List (Nat × Value)) (l m : List Value) (d : Nat), (∀ t, t ≠ d → l[t]? = m[t]?) → l.length = m.length → ∀ t, t ≠ d → (setAll l vs)[t]? = (setAll m vs)[t]?
  | [], _, _, _, h, _, t, ht => h t ht
  | p :: vs, l, m, d, h, hl, t, ht => by
    show (setAll (l.set p.1 p.2) vs)[t]? = (setAll (m.set p.1 p.2) vs)[t]?
    refine setAll_other vs _ _ d (fun t ht => ?_) (by rw [List.length_set, List.length_set, hl]) t ht
    rw [List.getElem?_set, List.getElem?_set, h t ht, hl]
theorem setAll_first (l : List Value) (d : Nat) (a b : Value) (ks : List Nat) (vs : List Value) (t : Nat) (ht : t ≠ d) : (setAll l ((d :: ks).zip (a :: vs)))[t]? = (setAll l ((d :: ks).zip (b :: vs)))[t]? :=
  setAll_other (ks.zip vs) (l.set d a) (l.set d b) d (fun t ht => by rw [List.getElem?_set_ne (Ne.symm ht), List.getElem?_set_ne (Ne.symm ht)]) (by rw [List.length_set, List.length_set]) t ht
section
variable {P : Program} {ops : Array Oper} {Q : Exit → Act → World → Prop} {md : Region.Mode}
/-- these slots are filled by operations that wait for i -/
def exOk (md : Region.Mode) (ops : Array Oper) (i : Nat) (ex : List Nat) : Bool := ex.all fun t => (List.range ops.size).any fun j => anc md ops ops.size j i && (match ops[j]? with | none => false | some p => p.dst == some t)
/-- two fillings that differ at some slots alone -/
inductive Differ (ex : List Nat) : List (Nat × Value) → List (Nat × Value) → Prop
  | nil : Differ ex [] []
  | same {k : Nat} {a : Value} {vs us : List (Nat × Value)} : Differ ex vs us → Differ ex ((k, a) :: vs) ((k, a) :: us)
  | diff {k : Nat} {a b : Value} {vs us : List (Nat × Value)} : k ∈ ex → Differ ex vs us → Differ ex ((k, a) :: vs) ((k, b) :: us)
theorem Differ.get {ex : List Nat} {vs us : List (Nat × Value)} (h : Differ ex vs us) : ∀ (l m : List Value), l.length = m.length → (∀ t, t ∉ ex → l[t]? = m[t]?) → ∀ t, t ∉ ex → (setAll l vs)[t]? = (setAll m us)[t]? := by
  induction h with
  | nil => intro l m _ h t ht; exact h t ht
  | @same k a vs us _ ih =>
    intro l m hl h t ht
    refine ih (l.set k a) (m.set k a) (by rw [List.length_set, List.length_set, hl]) (fun t ht => ?_) t ht
    rw [List.getElem?_set, List.getElem?_set, h t ht, hl]
  | @diff k a b vs us hk _ ih =>
    intro l m hl h t ht
    refine ih (l.set k a) (m.set k b) (by rw [List.length_set, List.length_set, hl]) (fun t ht => ?_) t ht
    have : k ≠ t := fun e => ht (e ▸ hk)
    rw [List.getElem?_set_ne this, List.getElem?_set_ne this, h t ht]
/-- the obligations, one for each operation that has not come up yet; those of the list mks turn the world: B tells what holds behind each -/
inductive Obls (P : Program) (ops : Array Oper) (Q : Exit → Act → World → Prop) (md : Region.Mode) {γ : Type} (Sx : World → Prop) (mks : List Nat) (B : Nat → γ → World → Prop) (l : List Value) (keys : List Nat) (vals : γ → List Value) (df : List Deferred) : List Nat → Prop
  | nil : Obls P ops Q md Sx mks B l keys vals df []
  | val {i : Nat} {r : List Nat} (o : Oper) (d : Nat) (v : γ → Value) (ho : ops[i]? = some o) (hk : i ∉ mks) (hd : o.dst = some d) (hw : ∀ g, Region.wanted o (yielded ops (setAll l (keys.zip (vals g))).toArray) = true)
      (hv : ∀ g w, Sx w → (∀ k ∈ mks, anc md ops ops.size i k = true → B k g w) → (execOp (Act.mk (setAll l (keys.zip (vals g))).toArray df).eval o).run P w = .ok (.value (v g)) w)
      (hA : ∀ g, (setAll l (keys.zip (vals g)))[d]? = some (v g)) (t : Obls P ops Q md Sx mks B l keys vals df r) : Obls P ops Q md Sx mks B l keys vals df (i :: r)
  | call {i : Nat} {r : List Nat} (o : Oper) (d : Nat) (v : Value) (f : FuncId) (args : Array Value) (ho : ops[i]? = some o) (hk : i ∉ mks) (hd : o.dst = some d) (hw : ∀ g, Region.wanted o (yielded ops (setAll l (keys.zip (vals g))).toArray) = true)
      (hv : ∀ g w, Sx w → (execOp (Act.mk (setAll l (keys.zip (vals g))).toArray df).eval o).run P w = .ok (.enter f args) w) (hc : ∀ g w, Sx w → Calls P f args w fun e w' => e = .returned v ∧ Sx w' ∧ ∀ k ∈ mks, B k g w → B k g w')
      (hA : ∀ g, (setAll l (keys.zip (vals g)))[d]? = some v) (t : Obls P ops Q md Sx mks B l keys vals df r) : Obls P ops Q md Sx mks B l keys vals df (i :: r)
  | nt {i : Nat} {r : List Nat} (o : Oper) (d : Nat) (ho : ops[i]? = some o) (hk : i ∉ mks) (hd : o.dst = some d) (hw : ∀ g, Region.wanted o (yielded ops (setAll l (keys.zip (vals g))).toArray) = false)
      (hA : ∀ g, (setAll l (keys.zip (vals g)))[d]? = some undef) (t : Obls P ops Q md Sx mks B l keys vals df r) : Obls P ops Q md Sx mks B l keys vals df (i :: r)
  | mk {i : Nat} {r : List Nat} (o : Oper) (d : Nat) (ex : List Nat) (hex : exOk md ops i ex = true) (ho : ops[i]? = some o) (hd : o.dst = some d) (hw : ∀ g, Region.wanted o (yielded ops (setAll l (keys.zip (vals g))).toArray) = true)
      (hv : ∀ g w, Sx w → (∀ k ∈ mks, anc md ops ops.size i k = true → B k g w) → ∃ g' v w', (execOp (Act.mk (setAll l (keys.zip (vals g))).toArray df).eval o).run P w = .ok (.value v) w' ∧ (setAll l (keys.zip (vals g')))[d]? = some v ∧ Sx w' ∧ B i g' w' ∧ (∀ k ∈ mks, k ≠ i → anc md ops ops.size k i = false → B k g w → B k g' w') ∧ ∀ t, t ∉ d :: ex → (setAll l (keys.zip (vals g')))[t]? = (setAll l (keys.zip (vals g)))[t]?)
      (t : Obls P ops Q md Sx mks B l keys vals df r) : Obls P ops Q md Sx mks B l keys vals df (i :: r)
  | eff {i : Nat} {r : List Nat} (o : Oper) (ho : ops[i]? = some o) (hd : o.dst = none) (hw : ∀ g, Region.wanted o (yielded ops (setAll l (keys.zip (vals g))).toArray) = true)
      (hv : ∀ g w, Sx w → (∀ k ∈ mks, anc md ops ops.size i k = true → B k g w) → o.wp P ⟨(setAll l (keys.zip (vals g))).toArray, df⟩ w (fun a' w' => a'.defers = df ∧ Sx w' ∧ B i g w' ∧ ∀ k ∈ mks, k ≠ i → B k g w → B k g w') Q)
      (t : Obls P ops Q md Sx mks B l keys vals df r) : Obls P ops Q md Sx mks B l keys vals df (i :: r)
/-- what one operation is asked that does not turn the world -/
def GoodP (P : Program) (ops : Array Oper) (Q : Exit → Act → World → Prop) {γ : Type} (Sx : World → Prop) (mks : List Nat) (B : Nat → γ → World → Prop) (A : Array Value) (df : List Deferred) (g : γ) (o : Oper) (w : World) : Prop :=
  (Region.wanted o (yielded ops A) = true ∧ o.wp P ⟨A, df⟩ w (fun a2 w' => Sx w' ∧ (∀ k ∈ mks, B k g w → B k g w') ∧ a2.defers = df ∧ ∀ d, o.dst = some d → a2.tmps[d]? = A[d]? ∧ d < A.size) Q) ∨
  (Region.wanted o (yielded ops A) = false ∧ ∀ d, o.dst = some d → A[d]? = some undef)
theorem good_val {γ : Type} {Sx : World → Prop} {mks : List Nat} {B : Nat → γ → World → Prop} {l : List Value} {df : List Deferred} {g : γ} {o : Oper} {w : World} {d : Nat} (v : Value) (hd : o.dst = some d) (hw : Region.wanted o (yielded ops l.toArray) = true)
    (hv : (execOp (Act.mk l.toArray df).eval o).run P w = .ok (.value v) w) (hA : l[d]? = some v) (hS : Sx w) : GoodP P ops Q Sx mks B l.toArray df g o w := by
  have hlt : d < l.length := by
    rcases Nat.lt_or_ge d l.length with h | h
    · exact h
    · rw [List.getElem?_eq_none h] at hA; cases hA
  refine .inl ⟨hw, ?_⟩
  unfold Oper.wp
  rw [hv]
  refine ⟨hS, fun _ _ h => h, by rw [hd]; rfl, fun d' hd' => ?_⟩
  rw [hd] at hd'
  cases hd'
  rw [hd]
  refine ⟨?_, by simpa using hlt⟩
  refine Eq.trans ?_ ((List.getElem?_toArray (xs := l) (i := d)).trans hA).symm
  show (l.toArray.setIfInBounds d v)[d]? = some v
  rw [Array.getElem?_setIfInBounds_self, if_pos (by simpa using hlt)]
theorem good_not {γ : Type} {Sx : World → Prop} {mks : List Nat} {B : Nat → γ → World → Prop} {l : List Value} {df : List Deferred} {g : γ} {o : Oper} {w : World} {d : Nat} (hd : o.dst = some d) (hw : Region.wanted o (yielded ops l.toArray) = false) (hA : l[d]? = some undef) : GoodP P ops Q Sx mks B l.toArray df g o w :=
  .inr ⟨hw, fun d' hd' => by rw [hd] at hd'; cases hd'; simpa using hA⟩
theorem good_call {γ : Type} {Sx : World → Prop} {mks : List Nat} {B : Nat → γ → World → Prop} {l : List Value} {df : List Deferred} {g : γ} {o : Oper} {w : World} {d : Nat} {f : FuncId} {args : Array Value} (v : Value) (hd : o.dst = some d) (hw : Region.wanted o (yielded ops l.toArray) = true)
    (hr : (execOp (Act.mk l.toArray df).eval o).run P w = .ok (.enter f args) w) (hc : Calls P f args w fun e w' => e = .returned v ∧ Sx w' ∧ ∀ k ∈ mks, B k g w → B k g w') (hA : l[d]? = some v) : GoodP P ops Q Sx mks B l.toArray df g o w := by
  have hlt : d < l.length := by
    rcases Nat.lt_or_ge d l.length with h | h
    · exact h
    · rw [List.getElem?_eq_none h] at hA; cases hA
  refine .inl ⟨hw, ?_⟩
  unfold Oper.wp
  rw [hr]
  refine Calls.mono hc ?_
  rintro e w' ⟨rfl, h1, h2⟩
  refine ⟨h1, h2, by rw [hd]; rfl, fun d' hd' => ?_⟩
  rw [hd] at hd'
  cases hd'
  rw [hd]
  refine ⟨?_, by simpa using hlt⟩
  refine Eq.trans ?_ ((List.getElem?_toArray (xs := l) (i := d)).trans hA).symm
  show (l.toArray.setIfInBounds d v)[d]? = some v
  rw [Array.getElem?_setIfInBounds_self, if_pos (by simpa using hlt)]
theorem Obls.good {γ : Type} {Sx : World → Prop} {mks : List Nat} {B : Nat → γ → World → Prop} {l : List Value} {keys : List Nat} {vals : γ → List Value} {df : List Deferred} {todo : List Nat} (h : Obls P ops Q md Sx mks B l keys vals df todo) :
    ∀ i ∈ todo, ∀ o, ops[i]? = some o → ∀ (listed : Array Bool) (g : γ) (w : World), (∀ e ∈ o.after, Region.binds md e = true → listed.getD e.on false = true) → Closed md ops listed → listed.size = ops.size → listed.getD i true = false → (Sx w ∧ ∀ k ∈ mks, listed.getD k false = true → B k g w) → Good P ops Q (fun listed g w => Sx w ∧ ∀ k ∈ mks, listed.getD k false = true → B k g w) (fun g => (setAll l (keys.zip (vals g))).toArray) df i o listed g w := by
  have old : ∀ (i k : Nat) (listed : Array Bool), i ≠ k → (listed.setIfInBounds i true).getD k false = true → listed.getD k false = true := fun i k listed hk h => by
    rwa [getD_set_other false hk] at h
  have plain : ∀ (i : Nat) (o : Oper) (_ : ops[i]? = some o) (hk : i ∉ mks) (listed : Array Bool) (g : γ) (w : World), (∀ e ∈ o.after, Region.binds md e = true → listed.getD e.on false = true) → Closed md ops listed → (Sx w ∧ ∀ k ∈ mks, listed.getD k false = true → B k g w) →
      ((∀ k ∈ mks, anc md ops ops.size i k = true → B k g w) → GoodP P ops Q Sx mks B (setAll l (keys.zip (vals g))).toArray df g o w) → Good P ops Q (fun listed g w => Sx w ∧ ∀ k ∈ mks, listed.getD k false = true → B k g w) (fun g => (setAll l (keys.zip (vals g))).toArray) df i o listed g w := by
    intro i o ho hk listed g w ha hcl hS hx
    have hset : ∀ w', (∀ k ∈ mks, B k g w → B k g w') → ∀ k ∈ mks, (listed.setIfInBounds i true).getD k false = true → B k g w' := fun w' hb k hkm h =>
      hb k hkm (hS.2 k hkm (old i k listed (fun e => hk (e ▸ hkm)) h))
    rcases hx (fun k hkm hanc => hS.2 k hkm (anc_listed hcl _ i o ho ha hanc)) with ⟨h1, h2⟩ | ⟨h1, h2⟩
    · exact .inl ⟨h1, Oper.wp_mono (fun a2 w' ⟨k1, k2, k3, k4⟩ => ⟨g, ⟨k1, hset w' k2⟩, k3, k4, rfl, fun _ _ _ => rfl⟩) h2⟩
    · exact .inr ⟨h1, ⟨hS.1, hset w fun _ _ h => h⟩, h2⟩
  induction h with
  | nil => intro i hi; cases hi
  | @val j r o' d v ho' hk hd hw hv hA _ ih =>
    intro i hi o ho listed g w ha hcl hlsz hli hS
    rcases List.mem_cons.1 hi with rfl | hi
    · have ee : o = o' := by rw [ho] at ho'; injection ho'
      subst ee
      exact plain i o ho hk listed g w ha hcl hS fun hB => good_val (v g) hd (hw g) (hv g w hS.1 hB) (hA g) hS.1
    · exact ih i hi o ho listed g w ha hcl hlsz hli hS
  | @call j r o' d v f args ho' hk hd hw hv hc hA _ ih =>
    intro i hi o ho listed g w ha hcl hlsz hli hS
    rcases List.mem_cons.1 hi with rfl | hi
    · have ee : o = o' := by rw [ho] at ho'; injection ho'
      subst ee
      exact plain i o ho hk listed g w ha hcl hS fun _ => good_call v hd (hw g) (hv g w hS.1) (hc g w hS.1) (hA g)
    · exact ih i hi o ho listed g w ha hcl hlsz hli hS
  | @nt j r o' d ho' hk hd hw hA _ ih =>
    intro i hi o ho listed g w ha hcl hlsz hli hS
    rcases List.mem_cons.1 hi with rfl | hi
    · have ee : o = o' := by rw [ho] at ho'; injection ho'
      subst ee
      exact plain i o ho hk listed g w ha hcl hS fun _ => good_not hd (hw g) (hA g)
    · exact ih i hi o ho listed g w ha hcl hlsz hli hS
  | @mk j r o' d ex hex ho' hd hw hv _ ih =>
    intro i hi o ho listed g w ha hcl hlsz hli hS
    rcases List.mem_cons.1 hi with rfl | hi
    · have ee : o = o' := by rw [ho] at ho'; injection ho'
      subst ee
      obtain ⟨g', v, w', h1, h2, h3, h4, h5, h6⟩ := hv g w hS.1 (fun k hkm hanc => hS.2 k hkm (anc_listed hcl _ i o ho ha hanc))
      have hlt : d < (setAll l (keys.zip (vals g))).length := by
        rw [setAll_length]
        rcases Nat.lt_or_ge d l.length with h | h
        · exact h
        · rw [List.getElem?_eq_none (by rw [setAll_length]; exact h)] at h2; cases h2
      refine .inl ⟨hw g, ?_⟩
      unfold Oper.wp
      simp only
      rw [h1]
      refine ⟨g', ⟨h3, fun k hkm hl => ?_⟩, by rw [hd]; rfl, fun d' hd' => ?_, by simp [setAll_length], fun t ht hun => ?_⟩
      · by_cases e : i = k
        · subst e; exact h4
        · have hkl := old i k listed e hl
          refine h5 k hkm (Ne.symm e) ?_ (hS.2 k hkm hkl)
          cases hx : anc md ops ops.size k i with
          | false => rfl
          | true =>
            exfalso
            have hksz : k < ops.size := by
              rcases Nat.lt_or_ge k listed.size with h | h
              · omega
              · rw [Array.getD_eq_getD_getElem?, Array.getElem?_eq_none h] at hkl; cases hkl
            have hp := Array.getElem?_eq_getElem hksz
            have h11 := anc_listed hcl _ k _ hp (hcl k _ hp hkl) hx
            rw [Array.getD_eq_getD_getElem?] at h11 hli
            cases hx : listed[i]? with
            | none => rw [hx] at h11; cases h11
            | some b => rw [hx] at h11 hli; simp only [Option.getD_some] at h11 hli; rw [h11] at hli; cases hli
      · rw [hd] at hd'
        cases hd'
        rw [hd]
        refine ⟨?_, by simpa using hlt⟩
        refine Eq.trans ?_ ((List.getElem?_toArray (xs := setAll l (keys.zip (vals g'))) (i := d)).trans h2).symm
        show ((setAll l (keys.zip (vals g))).toArray.setIfInBounds d v)[d]? = some v
        rw [Array.getElem?_setIfInBounds_self, if_pos (by simpa using hlt)]
      · have : t ∉ d :: ex := fun e => by
          rcases List.mem_cons.1 e with e | e
          · exact ht (by rw [hd, e])
          · unfold exOk at hex
            rw [List.all_eq_true] at hex
            have h7 := hex t e
            rw [List.any_eq_true] at h7
            obtain ⟨j, hj, h8⟩ := h7
            rw [Bool.and_eq_true] at h8
            rw [List.mem_range] at hj
            cases hp : ops[j]? with
            | none => rw [hp] at h8; simp at h8
            | some p =>
              rw [hp] at h8
              have h9 := h8.2
              simp only [beq_iff_eq] at h9
              refine hun j p hp ?_ h9
              cases hjl : listed.getD j true with
              | false => rfl
              | true =>
                exfalso
                have h10 : listed.getD j false = true := by
                  rw [Array.getD_eq_getD_getElem?, Array.getElem?_eq_getElem (by omega)] at hjl ⊢
                  exact hjl
                have h11 := anc_listed hcl _ j p hp (hcl j p hp h10) h8.1
                rw [Array.getD_eq_getD_getElem?] at h11 hli
                cases hx : listed[i]? with
                | none => rw [hx] at h11; cases h11
                | some b => rw [hx] at h11 hli; simp only [Option.getD_some] at h11 hli; rw [h11] at hli; cases hli
        simpa using h6 t this
    · exact ih i hi o ho listed g w ha hcl hlsz hli hS
  | @eff j r o' ho' hd hw hv _ ih =>
    intro i hi o ho listed g w ha hcl hlsz hli hS
    rcases List.mem_cons.1 hi with rfl | hi
    · have ee : o = o' := by rw [ho] at ho'; injection ho'
      subst ee
      have h1 := hv g w hS.1 (fun k hkm hanc => hS.2 k hkm (anc_listed hcl _ i o ho ha hanc))
      refine .inl ⟨hw g, Oper.wp_mono (fun a2 w' ⟨k0, k1, k2, k3⟩ => ⟨g, ⟨k1, fun k hkm hl => ?_⟩, k0, fun d hd' => (by rw [hd] at hd'; cases hd'), rfl, fun _ _ _ => rfl⟩) h1⟩
      by_cases e : i = k
      · subst e; exact k2
      · exact k3 k hkm (Ne.symm e) (hS.2 k hkm (old i k listed e hl))
    · exact ih i hi o ho listed g w ha hcl hlsz hli hS
/-- all that have not come up stand in a list -/
def coverOk (ops : Array Oper) (listed0 : Array Bool) (todo : List Nat) : Bool := listed0.size == ops.size && (List.range ops.size).all fun i => listed0.getD i true || todo.contains i
/-- the numbers of the slots that are filled are those of operations that have not come up -/
def keysOk (ops : Array Oper) (listed0 : Array Bool) (keys : List Nat) : Bool := keys.all fun d => (List.range ops.size).any fun j => !listed0.getD j true && (match ops[j]? with | none => false | some o => o.dst == some d)
theorem wpAnyH_obls {γ : Type} {Sx : World → Prop} (mks : List Nat) (B : Nat → γ → World → Prop) (keys : List Nat) (vals : γ → List Value) (todo : List Nat) (g0 : γ) {fuel : Nat} {listed0 : Array Bool} {l : List Value} {df : List Deferred} {w : World}
    (hsel : Region.noSelect ops = true) (hdep : depOk md ops listed0 = true) (hcov : coverOk ops listed0 todo = true) (hkeys : keysOk ops listed0 keys = true) (hcl : closedOk md ops listed0 = true) (hmk : (mks.all fun k => decide (k < ops.size) && !listed0.getD k false) = true) (hfuel : unl ops listed0 ≤ fuel)
    (hQ : ∀ c a b w, Q (.panic c) a w → Q (.panic c) b w) (hS : Sx w)
    (hop : Obls P ops Q md Sx mks B l keys vals df todo)
    (hend : ∀ g w, Sx w → (∀ k ∈ mks, B k g w) → Q .normal ⟨(setAll l (keys.zip (vals g))).toArray, df⟩ w) : wpAnyH P md ops Q Sx fuel listed0 ⟨l.toArray, df⟩ w := by
  have hsz : listed0.size = ops.size := by
    unfold coverOk at hcov
    rw [Bool.and_eq_true, beq_iff_eq] at hcov
    exact hcov.1
  rw [List.all_eq_true] at hmk
  have hm : ∀ k ∈ mks, k < ops.size ∧ listed0.getD k false = false := fun k hk => by
    have := hmk k hk
    simpa using this
  refine wpAnyH_det (S := fun listed g w => (Sx w ∧ ∀ k ∈ mks, listed.getD k false = true → B k g w)) (A := fun g => (setAll l (keys.zip (vals g))).toArray) hsel hdep hQ (fun _ _ _ h => h.1) (fun i o ho hl listed g w ha hcl' hlsz hli hS => ?_) (fun _ g w hall h => hend g w h.1 fun k hk => h.2 k hk (hall k _ (Array.getElem?_eq_getElem (hm k hk).1))) fuel listed0 g0 ⟨l.toArray, df⟩ w (fun _ h => h) hfuel hsz (closedOk_spec hcl) ⟨hS, fun k hk h => by rw [(hm k hk).2] at h; cases h⟩ rfl (by simp [setAll_length]) (fun t ht => ?_)
  · have hi : i ∈ todo := by
      unfold coverOk at hcov
      rw [Bool.and_eq_true, List.all_eq_true] at hcov
      have hlt : i < ops.size := by
        rcases Nat.lt_or_ge i ops.size with h | h
        · exact h
        · rw [Array.getElem?_eq_none h] at ho; cases ho
      have := hcov.2 i (List.mem_range.2 hlt)
      rw [hl] at this
      simpa using this
    exact hop.good i hi o ho listed g w ha hcl' hlsz hli hS
  · show l.toArray[t]? = _
    rw [List.getElem?_toArray, List.getElem?_toArray, setAll_get]
    intro p hp
    have hpk : p.1 ∈ keys := (List.of_mem_zip hp).1
    intro e
    unfold keysOk at hkeys
    rw [List.all_eq_true] at hkeys
    have h1 := hkeys p.1 hpk
    rw [List.any_eq_true] at h1
    obtain ⟨j, hj, h2⟩ := h1
    rw [Bool.and_eq_true] at h2
    cases ho : ops[j]? with
    | none => rw [ho] at h2; simp at h2
    | some o =>
      rw [ho] at h2
      refine ht j o ho (by simpa using h2.1) ?_
      have := h2.2
      simp only [beq_iff_eq] at this
      rw [this, e]
end
end Go.Proofs.YtinjnclpiiohcaaDoor
namespace Go.Proofs.YtinjnclpiiohcaaDoor
open Go.RowKit
theorem load_run {P : Program} {o : Oper} {a : Act} {w : World} (ty : TypeId) (x : Operand) (ho : o.op = .load ty x) (b off : Nat) (hx : a.eval x = .pointer (some ⟨b, off, none⟩)) (cs : List Value) (d : TypeDesc) (hr : w.rangeAt b off cs) (hu : P.underlying ty = some d) (hd : d.isRow = true) (hi : (P.info? ty).map (·.size) = some cs.length) :
    (execOp a.eval o).run P w = .ok (.value (.agg cs.toArray)) w := by
  unfold execOp
  simp only [ho, hx, Instr.loadAt, Instr.sureAddr, Sem.run_bind, Sem.run_pure, Result.andThen_ok, run_loadVar_mid w b off ty cs d hr hu hd hi]
theorem conv_run {P : Program} {o : Oper} {a : Act} {x : Operand} {f t : TypeId} {v u : Value} {w w' : World} (ho : o.op = .convert f t x) (hx : a.eval x = v) (hc : (convert f t v).run P w = .ok u w') : (execOp a.eval o).run P w = .ok (.value u) w' := by
  unfold execOp
  simp only [ho, hx, Sem.run_bind, hc, Result.andThen_ok, Sem.run_pure]
theorem there_row {w : World} {b : Nat} {t : TypeId} {cs : Array Value} (h : w.heap[b]? = some (.cells cs t (0, 0))) : w.there b 0 cs.size := fun j hj => by
  rw [Nat.zero_add]
  refine ⟨?_, frozen_of_row _ _ _ _ _ h⟩
  rw [cell_of_row _ _ _ _ _ _ h, Array.getElem?_eq_getElem hj]
  rfl
theorem range_of_crow {w : World} {B : Nat} {l : List Nat} (h : CRow w B l) : w.rangeAt B 0 (l.map bV) := by
  intro j v hj
  rw [List.getElem?_map] at hj
  cases e : l[j]? with
  | none => rw [e] at hj; cases hj
  | some x =>
    rw [e] at hj
    have hjl : j < l.length := by
      rcases Nat.lt_or_ge j l.length with h | h
      · exact h
      · rw [List.getElem?_eq_none h] at e; cases e
    rw [Nat.zero_add, h.cell hjl, List.getD_eq_getElem?_getD, e]
    exact hj
/-- block b begins with the bytes l; it is a row of elements of type t -/
def RowB (t : TypeId) (b : Nat) (l : List Nat) (w : World) : Prop := CRow w b l ∧ ∃ C fr, w.heap[b]? = some (.cells C t fr)
theorem RowB.keep {t : TypeId} {b : Nat} {l : List Nat} {w w' : World} (h : RowB t b l w) (hb : w'.heap[b]? = w.heap[b]?) : RowB t b l w' := by
  obtain ⟨⟨C, t', lo, hi, h1, h2, h3⟩, C', fr, h4⟩ := h
  exact ⟨⟨C, t', lo, hi, hb.trans h1, h2, h3⟩, C', fr, hb.trans h4⟩
theorem RowB.below {t : TypeId} {b : Nat} {l : List Nat} {w w' : World} (h : RowB t b l w) (hb : Below w.heap.size w w') : RowB t b l w' := h.keep (hb.block b (by obtain ⟨_, _, _, h4⟩ := h; exact lt_of_block h4))
theorem RowB.new (w : World) (t : TypeId) (s : ByteArray) : RowB t w.heap.size (strN s) (Lib.bytesWorld w t s) := ⟨crow_bytes w t s, _, _, Lib.bytesWorld_at_new w t s⟩
/-- block b, made here, is a row of n cells that may be written -/
def RowZ (t : TypeId) (B0 b n : Nat) (w : World) : Prop := B0 ≤ b ∧ ∃ cs, w.heap[b]? = some (.cells cs t (0, 0)) ∧ cs.size = n
theorem RowZ.keep {t : TypeId} {B0 b n : Nat} {w w' : World} (h : RowZ t B0 b n w) (hb : w'.heap[b]? = w.heap[b]?) : RowZ t B0 b n w' := by
  obtain ⟨h0, cs, h1, h2⟩ := h
  exact ⟨h0, cs, hb.trans h1, h2⟩
theorem RowZ.below {t : TypeId} {B0 b n : Nat} {w w' : World} (h : RowZ t B0 b n w) (hb : Below w.heap.size w w') : RowZ t B0 b n w' := h.keep (hb.block b (by obtain ⟨_, _, h1, _⟩ := h; exact lt_of_block h1))
end Go.Proofs.YtinjnclpiiohcaaDoor
namespace Go.Proofs.YtinjnclpiiohcaaDoor
open Go.RowKit Go.ChangeShapes Go.WideShapes Go.ChangeAt
/-- the elements of l lie at a, n cells each -/
def SAt {α : Type} (n : Nat) (c : α → List Value) (w : World) (a : Option Addr) (l : List α) : Prop :=
  ∀ i (h : i < l.length), ∃ g off, a = some ⟨g, off, none⟩ ∧ g < w.heap.size ∧ w.rangeAt g (off + i * n) (c l[i])
section
variable {α : Type} {n : Nat} {c : α → List Value} {w w' : World} {a : Option Addr} {l : List α}
theorem SAt.nil : SAt n c w a ([] : List α) := fun i h => absurd h (by simp)
theorem SAt.below (h : SAt n c w a l) (hb : Below w.heap.size w w') : SAt n c w' a l := fun i hi => by
  obtain ⟨g, off, e, hg, hr⟩ := h i hi
  exact ⟨g, off, e, Nat.lt_of_lt_of_le hg hb.size, fun j u hu => (hb.cell (p := ⟨g, off + i * n + j, none⟩) hg).trans (hr j u hu)⟩
theorem SAt.drew (h : SAt n c w a l) : SAt n c w.drew a l := h
/-- one element of a row of cells -/
theorem flat_get (hc : ∀ y, (c y).length = n) : ∀ (l : List α) (i j : Nat) (h : i < l.length), j < n → (l.flatMap c)[i * n + j]? = (c l[i])[j]?
  | [], i, j, h, _ => by cases h
  | p :: l, 0, j, h, hj => by
    rw [List.flatMap_cons, List.getElem?_append_left (by rw [hc]; omega)]
    simp
  | p :: l, i + 1, j, h, hj => by
    rw [List.flatMap_cons, List.getElem?_append_right (by rw [hc, Nat.succ_mul]; omega), hc]
    have := flat_get hc l i j (by simpa using h) hj
    rw [show (i + 1) * n + j - n = i * n + j by rw [Nat.succ_mul]; omega, this]
    rfl
theorem flat_length (hc : ∀ y, (c y).length = n) : ∀ l : List α, (l.flatMap c).length = l.length * n
  | [] => by simp
  | p :: l => by rw [List.flatMap_cons, List.length_append, hc, flat_length hc l, List.length_cons, Nat.succ_mul]; omega
/-- a row of the call's own read as a list -/
theorem SAt.own {base : Nat} {t : TypeId} {v : Value} (h : w.ownsRow base t n v l.length (l.flatMap c)) (hc : ∀ y, (c y).length = n) :
    ∃ a cap, v = .slice a l.length cap ∧ l.length ≤ cap ∧ cap ≤ 9223372036854775807 ∧ SAt n c w a l := by
  obtain ⟨_, h2⟩ := h
  rcases h2 with ⟨hv, h3⟩ | ⟨g, cap, cur, hv, hb, hg, h3, h4, h5, h6⟩
  · refine ⟨none, 0, by rw [hv, h3], by omega, by omega, fun i hi => by omega⟩
  · refine ⟨_, cap, hv, h3, by unfold maxLen at h4; exact h4, fun i hi => ⟨g, 0, rfl, lt_of_block hg, fun j u hu => ?_⟩⟩
    have hj : j < n := by
      rcases Nat.lt_or_ge j n with h | h
      · exact h
      · rw [List.getElem?_eq_none (by rw [hc]; exact h)] at hu; cases hu
    have hlt : i * n + j < l.length * n := by
      have : (i + 1) * n ≤ l.length * n := Nat.mul_le_mul_right _ hi
      rw [Nat.succ_mul] at this
      omega
    rw [Nat.zero_add, cell_of_row _ _ _ _ _ _ hg, ← hu, ← flat_get hc l i j hi hj, ← h6, List.getElem?_take, if_pos hlt]
    simp
/-- a slice that is read, opened -/
theorem SAt.trod {H : Type} {P : Program} {enc : TypeId × Value → H} {base : Nat} {sp : Nat → Bool} {held : Bool} {t e : TypeId} (Pr : α → Prop) (ht : P.underlying t = some (.slice e)) (hC : P.cellsOf e = n) (hn : 0 < n) (hc : ∀ y, (c y).length = n)
    (hread : ∀ fuel cs x, DataW.trod enc P w base sp held fuel e cs = some x → ∃ y, cs = c y ∧ Pr y) {fuel : Nat} {vs : List Value} {d : DataW H × List MemPlace} (hf : DataW.trod enc P w base sp held fuel t vs = some d) :
    ∃ (a : Option Addr) (l : List α) (cap : Nat), vs = [.slice a l.length cap] ∧ l.length ≤ cap ∧ cap ≤ 9223372036854775807 ∧ (∀ y ∈ l, Pr y) ∧ SAt n c w a l ∧ (l = [] ∨ ∃ elems spare, d.1 = .slice elems spare ∧ elems.length = l.length) := by
  rcases Go.Deep.open_slice ht hf with ⟨hcs, _⟩ | ⟨a', len, cap, m, k, D, Pl, hcs, _, hl, hm, hmm, hxd, hx⟩
  · subst hcs
    exact ⟨none, [], 0, rfl, by simp, by simp, by simp, SAt.nil, .inl rfl⟩
  · subst hcs
    have hlm : len ≤ m := by rw [hmm]; split <;> omega
    have hall : ∀ i, i < len → ∃ y : α, Pr y ∧ ∀ j, j < n → w.cell? ((a'.add (i * n)).add j) = (c y)[j]? := by
      intro i hi
      obtain ⟨cs', h1, h2⟩ := hx i (by omega)
      rw [hC] at h1
      obtain ⟨y, rfl, hy⟩ := hread _ _ _ h2
      obtain ⟨_, _, hcl⟩ := World.cells?_some h1
      exact ⟨y, hy, hcl⟩
    by_cases h0 : len = 0
    · subst h0
      exact ⟨some a', [], cap, rfl, by simp, by unfold maxLen at hm; exact hm, by simp, SAt.nil, .inl rfl⟩
    · have : Inhabited α := ⟨(hall 0 (by omega)).choose⟩
      obtain ⟨f, hf'⟩ := Go.Deep.choose_lt hall
      have hget : ∀ k (h : k < ((List.range len).map f).length), ((List.range len).map f)[k] = f k := by intro k h; simp
      refine ⟨some a', (List.range len).map f, cap, by simp, by simpa using hl, by unfold maxLen at hm; exact hm, ?_, ?_, .inr ⟨_, _, by rw [hxd], by simp⟩⟩
      · intro y hy
        simp only [List.mem_map, List.mem_range] at hy
        obtain ⟨i, hi, rfl⟩ := hy
        exact (hf' i hi).1
      · obtain ⟨b, off, spt⟩ := a'
        have hcell := fun i (hi : i < len) j (hj : j < n) => (hf' i hi).2 j hj
        simp only [Go.Deep.add_add] at hcell
        have h00 := hcell 0 (by omega) 0 hn
        rw [List.getElem?_eq_getElem (show 0 < (c (f 0)).length by rw [hc]; exact hn)] at h00
        have hspt : spt = none := by simpa [Addr.add] using World.cell?_spot h00
        subst hspt
        have hbl := World.block_lt_of_cell? _ _ h00
        intro k hk
        refine ⟨b, off, rfl, by simpa [Addr.add] using hbl, ?_⟩
        rw [hget k hk]
        intro j u hu
        have hk' : k < len := by simpa using hk
        have hj : j < n := by
          rcases Nat.lt_or_ge j n with h | h
          · exact h
          · rw [List.getElem?_eq_none (by rw [hc]; exact h)] at hu; cases hu
        have := hcell k hk' j hj
        rw [hu] at this
        rw [← this]
        congr 1
        unfold Addr.add
        split
        · rename_i h0'
          obtain rfl : j = 0 := by omega
          simp
        · simp [Nat.add_assoc]
/-- an argument opened -/
theorem SAt.open_ {H : Type} {P : Program} {enc : TypeId × Value → H} {r : Reach} {base b0 : Nat} {sp : Nat → Bool} {held : Bool} {t e : TypeId} {v : Value} {d : DataW H} {p : List MemPlace} (Pr : α → Prop) (ht : P.underlying t = some (.slice e)) (hC : P.cellsOf e = n) (hn : 0 < n) (hc : ∀ y, (c y).length = n)
    (hread : ∀ fuel cs x, DataW.trod enc P w base sp held fuel e cs = some x → ∃ y, cs = c y ∧ Pr y) (ho : Value.okWide P w r b0 t v) (hd : DataW.Trod enc P w base sp held t v d p) :
    ∃ (a : Option Addr) (l : List α) (cap : Nat), v = .slice a l.length cap ∧ l.length ≤ cap ∧ cap ≤ 9223372036854775807 ∧ (∀ y ∈ l, Pr y) ∧ SAt n c w a l ∧ (l = [] ∨ ∃ elems spare, d = .slice elems spare ∧ elems.length = l.length) := by
  obtain ⟨a, len, cap, rfl⟩ := okWide_slice ht ho
  obtain ⟨fuel, hf⟩ := hd
  obtain ⟨a', l, cap', hv, h1, h2, h3, h4, h5⟩ := SAt.trod Pr ht hC hn hc hread hf
  simp only [Value.cells, List.cons.injEq, and_true] at hv
  exact ⟨a', l, cap', hv, h1, h2, h3, h4, h5⟩
end
/-- the fields of a struct, a cell each -/
theorem trod_fields {H : Type} {P : Program} {enc : TypeId × Value → H} {w : World} {base : Nat} {sp : Nat → Bool} {held : Bool} {e : TypeId} {fs : Array Field} {fuel : Nat} {cs : List Value} {x : DataW H × List MemPlace}
    (he : P.underlying e = some (.struct fs)) (hone : Go.Deep.oneCellFields P fs = true) (hC : P.cellsOf e = fs.size) (h : DataW.trod enc P w base sp held fuel e cs = some x) :
    cs.length = fs.size ∧ ∀ (j : Nat) (f : Field), fs[j]? = some f → ∃ (u : Value) (m : Nat) (y : DataW H × List MemPlace), cs[j]? = some u ∧ DataW.trod enc P w base sp held m f.type [u] = some y := by
  obtain ⟨ys, m, _, _, hlen, hyl, hf⟩ := DataW.trod_struct he h
  refine ⟨hlen.trans hC, fun j f hj => ?_⟩
  obtain ⟨ho, hk⟩ := Go.Deep.hone_of hone j f hj
  have hjl : j < fs.size := (Array.getElem?_eq_some_iff.1 hj).1
  have hjc : j < cs.length := by omega
  have h1 := hf j f hj
  rw [ho, hk, List.drop_eq_getElem_cons hjc] at h1
  have hys : ys[j]? = some (ys[j]'(by omega)) := List.getElem?_eq_getElem (by omega)
  rw [hys] at h1
  exact ⟨cs[j], m, _, List.getElem?_eq_getElem hjc, h1⟩
end Go.Proofs.YtinjnclpiiohcaaDoor
namespace Go.Proofs.YtinjnclpiiohcaaDoor
open Go.RowKit
theorem results_row {P : Program} {fn : Func} {p : Tmp} {ty : TypeId} (h : fn.results = #[.cell p ty]) (tmps : Array Value) (w : World) (g : Nat) (t : TypeId) (cs : Array Value) (fr : Nat × Nat) (d : TypeDesc)
    (hp : tmps.getD p undef = .pointer (some ⟨g, 0, none⟩)) (hg : w.heap[g]? = some (.cells cs t fr))
    (hu : P.underlying ty = some d) (hd : (match d with | .struct _ | .array _ _ => true | _ => false) = true) (hi : (P.info? ty).map (·.size) = some cs.size) :
    (results fn tmps).run P w = .ok (.agg cs) w := by
  have hp' : tmps[p]?.getD undef = .pointer (some ⟨g, 0, none⟩) := by simpa using hp
  simp [results, h, hp', asAddr, run_loadVar_row w g t ty cs fr d hg hu hd hi]
theorem results_row_tmp1 {P : Program} {fn : Func} {p q : Tmp} {ty : TypeId} (h : fn.results = #[.cell p ty, .tmp q]) (tmps : Array Value) (w : World) (g : Nat) (t : TypeId) (cs : Array Value) (fr : Nat × Nat) (d : TypeDesc)
    (hp : tmps.getD p undef = .pointer (some ⟨g, 0, none⟩)) (hg : w.heap[g]? = some (.cells cs t fr))
    (hu : P.underlying ty = some d) (hd : (match d with | .struct _ | .array _ _ => true | _ => false) = true) (hi : (P.info? ty).map (·.size) = some cs.size) :
    (results fn tmps).run P w = .ok (.tuple #[.agg cs, tmps.getD q undef]) w := by
  have hp' : tmps[p]?.getD undef = .pointer (some ⟨g, 0, none⟩) := by simpa using hp
  simp [results, h, hp', asAddr, run_loadVar_row w g t ty cs fr d hg hu hd hi]
theorem results_row_tmp2 {P : Program} {fn : Func} {p q r : Tmp} {ty : TypeId} (h : fn.results = #[.cell p ty, .tmp q, .tmp r]) (tmps : Array Value) (w : World) (g : Nat) (t : TypeId) (cs : Array Value) (fr : Nat × Nat) (d : TypeDesc)
    (hp : tmps.getD p undef = .pointer (some ⟨g, 0, none⟩)) (hg : w.heap[g]? = some (.cells cs t fr))
    (hu : P.underlying ty = some d) (hd : (match d with | .struct _ | .array _ _ => true | _ => false) = true) (hi : (P.info? ty).map (·.size) = some cs.size) :
    (results fn tmps).run P w = .ok (.tuple #[.agg cs, tmps.getD q undef, tmps.getD r undef]) w := by
  have hp' : tmps[p]?.getD undef = .pointer (some ⟨g, 0, none⟩) := by simpa using hp
  simp [results, h, hp', asAddr, run_loadVar_row w g t ty cs fr d hg hu hd hi]
end Go.Proofs.YtinjnclpiiohcaaDoor
namespace Go.Proofs.YtinjnclpiiohcaaDoor
theorem run_isAgg_int {P : Program} (w : World) {e : TypeId} {k : IntKind} (he : P.underlying e = some (.int k)) : (isAgg e).run P w = .ok false w := by
  unfold isAgg
  rw [Sem.run_bind, run_underlying he w]
  rfl
theorem run_sizeOf_of {P : Program} (w : World) {e : TypeId} {n : Nat} (hi : (P.info? e).map (·.size) = some n) : (Go.sizeOf e).run P w = .ok n w := by
  cases hq : P.info? e with
  | none => simp [hq] at hi
  | some i =>
    have hs : i.size = n := by simpa [hq] using hi
    simp [Go.sizeOf, typeInfo, hq, hs]
/-- 'a[i]' of an array of integers by value -/
theorem run_index_ints {P : Program} (w : World) (t e : TypeId) (n : Nat) (k kk : IntKind) (cs : Array Value) (i : Int) (ht : P.underlying t = some (.array n e)) (he : P.underlying e = some (.int kk)) (hi : (P.info? e).map (·.size) = some 1)
    (h0 : 0 ≤ i) (h1 : i < (n : Int)) (hc : cs.size = n) : (Instr.index t (.agg cs) (.int k i)).run P w = .ok (cs[i.toNat]'(by omega)) w := by
  have hin : 0 ≤ i ∧ i < (n : Int) := ⟨h0, h1⟩
  have hget : cs[i.toNat]? = some (cs[i.toNat]'(by omega)) := Array.getElem?_eq_getElem (by omega)
  simp [Instr.index, run_underlying ht, asIntOf, hin, go_sem, Sem.run_bind, run_sizeOf_of w hi, run_isAgg_int w he, hget]
end Go.Proofs.YtinjnclpiiohcaaDoor
namespace Go.Proofs.YtinjnclpiiohcaaDoor
namespace Plain
end Plain
open Go.RowKit Go.ChangeShapes Go.WideShapes Go.ChangeAt Plain
theorem mapM_some {α β : Type} {f : α → Option β} : ∀ (L : List α) (ys : List β), L.mapM f = some ys → ∀ x ∈ L, ∃ y, f x = some y
  | [], _, _, x, hx => by simp at hx
  | a :: L, ys, h, x, hx => by
    rw [List.mapM_cons] at h
    simp only [bind, Option.bind_eq_some_iff, pure, Option.some.injEq] at h
    obtain ⟨y, hy, zs, hz, rfl⟩ := h
    rcases List.mem_cons.1 hx with rfl | hx
    · exact ⟨y, hy⟩
    · exact mapM_some L zs hz x hx
theorem ints_of {k : IntKind} : ∀ (vs : List Value), (∀ v ∈ vs, ∃ n, v = .int k n ∧ (Lit.int k n).wf = true) → ∃ zs : List Int, vs = zs.map (Value.int k) ∧ ∀ z ∈ zs, (Lit.int k z).wf = true
  | [], _ => ⟨[], rfl, by simp⟩
  | v :: vs, h => by
    obtain ⟨n, rfl, hn⟩ := h v (by simp)
    obtain ⟨zs, rfl, hz⟩ := ints_of vs (fun u hu => h u (by simp [hu]))
    refine ⟨n :: zs, rfl, fun z hz' => ?_⟩
    rcases List.mem_cons.1 hz' with rfl | hz'
    · exact hn
    · exact hz z hz'
theorem open_ints_arr {H : Type} {P : Program} {enc : TypeId × Value → H} {W : World} {base : Nat} {sp : Nat → Bool} {held : Bool} {r : Reach} {b0 : Nat} {t e : TypeId} {n : Nat} {k : IntKind} {v : Value} {d : DataW H} {p : List MemPlace}
    (ht : P.underlying t = some (.array n e)) (he : P.underlying e = some (.int k)) (hc : P.cellsOf e = 1) (hn : P.cellsOf t = n) (ho : Value.okWide P W r b0 t v) (hd : DataW.Trod enc P W base sp held t v d p) :
    ∃ zs : List Int, v = .agg (zs.map (Value.int k)).toArray ∧ zs.length = n ∧ ∀ z ∈ zs, (Lit.int k z).wf = true := by
  simp only [Value.okWide, ht] at ho
  obtain ⟨cs, rfl, h2, _⟩ := ho
  rw [hn] at h2
  obtain ⟨fuel, hf⟩ := hd
  cases fuel with
  | zero => simp [DataW.trod] at hf
  | succ m =>
    rw [DataW.trod_step] at hf
    unfold DataW.trodStep at hf
    simp only [ht, Value.cells] at hf
    rw [if_pos (by rw [hn]; simpa using h2)] at hf
    simp only [Option.map_eq_some_iff] at hf
    obtain ⟨ys, hy, _⟩ := hf
    have hall := mapM_some _ _ hy
    obtain ⟨zs, hz, hw⟩ := ints_of (k := k) cs.toList (fun u hu => by
      obtain ⟨i, hi, rfl⟩ := List.mem_iff_getElem.1 hu
      have hi' : i < n := by rw [Array.length_toList] at hi; omega
      obtain ⟨y, hy⟩ := hall i (by simpa using hi')
      rw [hc, Nat.mul_one] at hy
      obtain ⟨a, ea, _, wa⟩ := DataW.trod_int he hy
      rw [List.drop_eq_getElem_cons hi] at ea
      simp only [List.take_succ_cons, List.take_zero, List.cons.injEq, and_true] at ea
      exact ⟨a, ea, wa⟩)
    refine ⟨zs, by rw [← hz], ?_, hw⟩
    have := congrArg List.length hz
    rw [List.length_map, Array.length_toList] at this
    omega
end Go.Proofs.YtinjnclpiiohcaaDoor
