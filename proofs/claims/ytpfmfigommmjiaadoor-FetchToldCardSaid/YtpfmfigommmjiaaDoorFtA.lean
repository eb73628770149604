/- Joined: Mem, Append, BytesOwn. -/
import Derived.WalkKit
import Derived.WalkSpells
import Derived.WalkLawsBesides
import Derived.Lib.ConvBytes
import Derived.Lib.SlBytesRow
import Derived.Lib.Hide
import Derived.Laws.OwnMore
import Derived.Deep.Draws
import Derived.Lib.BufferRead
namespace Go.Proofs.YtpfmfigommmjiaaDoor
open Go.RowKit
/-- the bytes of a string, as numbers -/
def strN (s : ByteArray) : List Nat := s.data.toList.map UInt8.toNat
theorem strN_length (s : ByteArray) : (strN s).length = s.size := by rw [strN, List.length_map, Array.length_toList]; rfl
theorem strN_lt (s : ByteArray) : ∀ c ∈ strN s, c < 256 := by
  intro c hc
  simp only [strN, List.mem_map] at hc
  obtain ⟨b, _, rfl⟩ := hc
  exact b.toNat_lt
theorem strN_getD (s : ByteArray) (j : Nat) : (s.data.toList.getD j 0).toNat = (strN s).getD j 0 := by
  simp only [strN, List.getD_eq_getElem?_getD, List.getElem?_map]
  cases s.data.toList[j]? <;> rfl
theorem bytesWorld_below {w : World} (e : TypeId) (s : ByteArray) : Below w.heap.size w (Lib.bytesWorld w e s) where
  os := rfl
  tape := rfl
  output := rfl
  size := by rw [Lib.bytesWorld_size]; omega
  block k hk := Lib.bytesWorld_at_old w e s k hk
theorem bytesWorld_cellN (w : World) (e : TypeId) (s : ByteArray) (j : Nat) (hj : j < s.size) : (Lib.bytesWorld w e s).cell? ⟨w.heap.size, j, none⟩ = some (.int .u8 (((strN s).getD j 0 : Nat) : Int)) := by
  rw [Lib.bytesWorld_cell w e s j hj, strN_getD]
theorem extract_strN (s : ByteArray) (a : Nat) : strN (s.extract a s.size) = (strN s).drop a := by
  unfold strN
  rw [Lib.extract_data, List.map_take, List.map_drop]
  exact List.take_of_length_le (by rw [List.length_drop, List.length_map, Array.length_toList]; exact Nat.le_refl _)
theorem extract_strN' (s : ByteArray) (a b : Nat) : strN (s.extract a b) = ((strN s).drop a).take (b - a) := by
  unfold strN
  rw [Lib.extract_data, List.map_take, List.map_drop]
theorem Below.next {B : Nat} {w w1 w2 : World} (h : Below B w w1) (hb : Below w1.heap.size w1 w2) (hB : B ≤ w.heap.size) : Below B w w2 :=
  h.trans (hb.mono (Nat.le_trans hB h.size))
theorem Below.step {w w1 w2 : World} (h : Below w.heap.size w w1) (hb : Below w1.heap.size w1 w2) : Below w.heap.size w w2 := Below.next h hb (Nat.le_refl _)
/-- a byte as a value -/
def bV (n : Nat) : Value := .int .u8 (n : Int)
/-- block B holds the bytes l, each may be written -/
def BRow (w : World) (e : TypeId) (B : Nat) (l : List Nat) : Prop := w.heap[B]? = some (.cells (l.map bV).toArray e (0, 0))
theorem BRow.cell {w : World} {e : TypeId} {B : Nat} {l : List Nat} (h : BRow w e B l) {k : Nat} (hk : k < l.length) : w.cell? ⟨B, k, none⟩ = some (.int .u8 ((l.getD k 0 : Nat) : Int)) := by
  rw [cell_of_row w B k _ e _ h]
  simp [List.getElem?_map, List.getD_eq_getElem?_getD, List.getElem?_eq_getElem hk, bV]
theorem BRow.frozen {w : World} {e : TypeId} {B : Nat} {l : List Nat} (h : BRow w e B l) (k : Nat) : w.frozen? ⟨B, k, none⟩ = false := frozen_of_row w B k _ e h
theorem BRow.drew {w : World} {e : TypeId} {B : Nat} {l : List Nat} (h : BRow w e B l) : BRow w.drew e B l := h
theorem BRow.lt {w : World} {e : TypeId} {B : Nat} {l : List Nat} (h : BRow w e B l) : B < w.heap.size := lt_of_block h
theorem BRow.below {w w' : World} {e : TypeId} {B : Nat} {l : List Nat} (h : BRow w e B l) (hb : Below w.heap.size w w') : BRow w' e B l := (hb.block B h.lt).trans h
theorem BRow.set {w : World} {e : TypeId} {B : Nat} {l : List Nat} (h : BRow w e B l) (k v : Nat) : BRow (w.setCell ⟨B, k, none⟩ (.int .u8 (v : Int))) e B (l.set k v) := by
  have := heap_setCell_same w B k _ e (.int .u8 (v : Int)) h
  unfold BRow
  rw [this]
  simp [List.map_set, bV]
theorem BRow.new (w : World) (e : TypeId) (l : List Nat) : BRow (w.alloc (.cells (l.map bV).toArray e)) e w.heap.size l := heap_alloc_new w _
theorem BRow.zeros (w : World) (e : TypeId) (n : Nat) : BRow (w.alloc (.cells (Array.replicate n (bV 0)) e)) e w.heap.size (List.replicate n 0) := by
  have := BRow.new w e (List.replicate n 0)
  simpa using this
theorem BRow.bytes {w : World} {e : TypeId} {B : Nat} {l : List Nat} (h : BRow w e B l) (s : ByteArray) (hs : strN s = l) : Lib.Bytes w B 0 s := by
  intro i hi
  subst hs
  have := h.cell (k := i) (by rw [strN_length]; exact hi)
  rw [Nat.zero_add, this, ← strN_getD]
  congr 3
  rw [List.getD_eq_getElem?_getD, List.getElem?_eq_getElem (by rw [Array.length_toList]; exact hi)]
  rfl
/-- the string of a list of bytes -/
def strOf (l : List Nat) : ByteArray := ⟨(l.map UInt8.ofNat).toArray⟩
theorem strN_strOf (l : List Nat) (h : ∀ c ∈ l, c < 256) : strN (strOf l) = l := by
  show ((l.map UInt8.ofNat).toArray.toList.map UInt8.toNat) = l
  rw [List.toList_toArray, List.map_map]
  conv => rhs; rw [← List.map_id l]
  apply List.map_congr_left
  intro c hc
  simp [Function.comp, Nat.mod_eq_of_lt (h c hc)]
theorem strOf_strN (s : ByteArray) : strOf (strN s) = s := by
  show (⟨((s.data.toList.map UInt8.toNat).map UInt8.ofNat).toArray⟩ : ByteArray) = s
  have : (s.data.toList.map UInt8.toNat).map UInt8.ofNat = s.data.toList := by
    rw [List.map_map]
    conv => rhs; rw [← List.map_id s.data.toList]
    apply List.map_congr_left
    intro c _
    simp
  rw [this, Array.toArray_toList]
theorem strOf_size (l : List Nat) : (strOf l).size = l.length := by
  show ((l.map UInt8.ofNat).toArray).size = _
  simp
theorem strN_inj {s t : ByteArray} (h : strN s = strN t) : s = t := by rw [← strOf_strN s, h, strOf_strN]
/-- 'make([]byte, c)' -/
theorem run_make_bytes {P : Program} (w : World) (t e : TypeId) (ht : P.underlying t = some (.slice e)) (hi : (P.info? e).map (fun i => (i.zero, i.size, i.bytes)) = some (some (.int .u8 0), 1, 1)) (c : Int) (h0 : 0 ≤ c) (hc : c ≤ 281474976710656) :
    (Instr.makeSlice t (.int .i64 c) (.int .i64 c)).run P w = .ok (.slice (some ⟨w.heap.size, 0, none⟩) c.toNat c.toNat) (w.alloc (.cells (Array.replicate c.toNat (bV 0)) e)) := by
  obtain ⟨i, hi, hz, hs, hb⟩ := info_parts hi
  have := run_make (P := P) w t e i (.int .u8 0) ht hi hz .i64 .i64 c c h0 (Int.le_refl _) (by rw [hb]; omega) (by omega)
  rw [this, hs]
  congr 3
  simp only [madeCells, Nat.mul_one]
  apply Array.ext
  · simp
  · intro k h1 h2
    simp [Value.cells, bV, Nat.mod_one]
/-- 'string(b)' of a row of bytes of its own -/
theorem run_string_of_row {P : Program} (w : World) (src e dst : TypeId) (hs : P.underlying src = some (.slice e)) (he : P.underlying e = some (.int .u8)) (hd : P.underlying dst = some .string) (B : Nat) (l : List Nat) (h : BRow w e B l) (hl : ∀ c ∈ l, c < 256) (cap : Nat) :
    (convert src dst (.slice (some ⟨B, 0, none⟩) l.length cap)).run P w = .ok (.string (strOf l)) w := by
  have := Lib.run_convert_whole (P := P) w src e dst hs he hd B 0 (strOf l) (h.bytes _ (strN_strOf l hl)) cap
  rw [strOf_size] at this
  exact this
end Go.Proofs.YtpfmfigommmjiaaDoor
namespace Go.Proofs.YtpfmfigommmjiaaDoor
open Go.RowKit
/-- the cells of a block just made -/
theorem cells_new (w : World) (cs : Array Value) (t : TypeId) : ∀ (j : Nat) (u : Value), cs.toList[j]? = some u → (w.alloc (.cells cs t)).cell? ((⟨w.heap.size, 0, none⟩ : Addr).add j) = some u := by
  intro j u hu
  have e : ((⟨w.heap.size, 0, none⟩ : Addr).add j) = ⟨w.heap.size, j, none⟩ := by
    unfold Addr.add
    split
    · rename_i h; subst h; rfl
    · simp
  rw [e, cell_of_row _ _ _ _ _ _ (heap_alloc_new w (.cells cs t))]
  simpa using hu
theorem cells_new_at (w : World) (b : Nat) (hb : b = w.heap.size) (cs : Array Value) (t : TypeId) (news : List Value) (hn : news = cs.toList) : ∀ (j : Nat) (u : Value), news[j]? = some u → (w.alloc (.cells cs t)).cell? ((⟨b, 0, none⟩ : Addr).add j) = some u := by
  subst hb hn
  exact cells_new w cs t
theorem below_dn {B : Nat} {w w1 : World} (h : Below B w w1) (n : Nat) : Below B w (w1.drewN n) := ⟨h.os, h.tape, h.output, h.size, h.block⟩
theorem below_own {B base : Nat} {e : TypeId} {size n : Nat} {v : Value} {xs : List Value} {w0 w w1 : World} (h : Below B w0 w) (hg : w.grownBy w1 v.ownBlock) (hB : B ≤ w.heap.size) (hown : w.ownsRow base e size v n xs) (hbase : B ≤ base) : Below B w0 w1 :=
  h.grown hg hB fun k hk => Nat.le_trans hbase (hown.lt k hk).1
end Go.Proofs.YtpfmfigommmjiaaDoor
namespace Go.Proofs.YtpfmfigommmjiaaDoor
open Go.RowKit
theorem byte_get (s : ByteArray) (k : Nat) (h : k < s.size) : (s[k]).toNat = (strN s).getD k 0 := by
  rw [← strN_getD, List.getD_eq_getElem?_getD, List.getElem?_eq_getElem (by rw [Array.length_toList]; exact h)]
  rfl
/-- 'string(b)' of bytes of the call's own, nil let in -/
theorem run_string_own {P : Program} (w : World) (src e dst : TypeId) (hs : P.underlying src = some (.slice e)) (he : P.underlying e = some (.int .u8)) (hd : P.underlying dst = some .string) {base : Nat} {v : Value} {l : List Nat} (hl : ∀ c ∈ l, c < 256)
    (h : w.ownsRow base e 1 v l.length (l.map bV)) : (convert src dst v).run P w = .ok (.string (strOf l)) w := by
  rcases h.2 with ⟨rfl, h0⟩ | ⟨g, cap, cur, rfl, hb, hg, h3, h4, h5, h6⟩
  · obtain rfl := List.eq_nil_of_length_eq_zero h0
    exact Lib.run_convert_nil_bytes (P := P) w src dst e 0 hs he hd
  · have hbytes : Lib.Bytes w g 0 (strOf l) := by
      intro i hi
      rw [strOf_size] at hi
      rw [Nat.zero_add, cell_of_row _ _ _ _ _ _ hg]
      have h7 : (cur.toList.take (l.length * 1))[i]? = (l.map bV)[i]? := by rw [h6]
      rw [List.getElem?_take, if_pos (by omega), List.getElem?_map, List.getElem?_eq_getElem hi] at h7
      rw [← Array.getElem?_toList, h7]
      have hlt := hl _ (List.getElem_mem hi)
      have hb : ((strOf l)[i]'(by rw [strOf_size]; exact hi)).toNat = l[i] := by
        rw [byte_get, strN_strOf l hl, List.getD_eq_getElem?_getD, List.getElem?_eq_getElem hi]
        rfl
      rw [hb]
      rfl
    have := Lib.run_convert_whole (P := P) w src e dst hs he hd g 0 (strOf l) hbytes cap
    rwa [strOf_size] at this
end Go.Proofs.YtpfmfigommmjiaaDoor
