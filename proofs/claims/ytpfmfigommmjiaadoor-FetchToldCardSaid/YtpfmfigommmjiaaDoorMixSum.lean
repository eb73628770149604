/- The walk of mix.sum: a string hashed by blocks of eight bytes. -/
import Derived.Test.YtpfmfigommmjiaaDoorMixW
import Derived.Test.YtpfmfigommmjiaaDoorFtA
import Derived.Test.YtpfmfigommmjiaaDoorFtC
import Derived.Lib.BufferWrite
import Derived.Lib.SlBuf
import Derived.BigQuiet
import Derived.Deep.QuietTactic
namespace Go.Proofs.YtpfmfigommmjiaaDoor
open Go.RowKit Plain
namespace Plain
/-- the first eight bytes, with zeros behind -/
def pad8 (l : List Nat) : List Nat := l.take 8 ++ List.replicate (8 - l.length) 0
theorem pad8_length (l : List Nat) : (pad8 l).length = 8 := by
  simp only [pad8, List.length_append, List.length_take, List.length_replicate]; omega
theorem pad8_lt (l : List Nat) (h : ∀ c ∈ l, c < 256) : ∀ c ∈ pad8 l, c < 256 := by
  intro c hc
  rcases List.mem_append.1 hc with h1 | h1
  · exact h c (List.mem_of_mem_take h1)
  · rw [(List.mem_replicate.1 h1).2]; decide
def le64 (a0 a1 a2 a3 a4 a5 a6 a7 : Nat) : Nat := a0 + a1 * 256 + a2 * 65536 + a3 * 16777216 + a4 * 4294967296 + a5 * 1099511627776 + a6 * 281474976710656 + a7 * 72057594037927936
def leL (l : List Nat) : Nat := le64 (l.getD 0 0) (l.getD 1 0) (l.getD 2 0) (l.getD 3 0) (l.getD 4 0) (l.getD 5 0) (l.getD 6 0) (l.getD 7 0)
end Plain
theorem or_add' (x y i : Nat) (hx : x < 2 ^ i) : x ||| (y * 2 ^ i) = x + y * 2 ^ i := by
  have h := Nat.two_pow_add_eq_or_of_lt hx y
  rw [Nat.or_comm, Nat.mul_comm y, ← h, Nat.add_comm]
theorem le64_lt (a0 a1 a2 a3 a4 a5 a6 a7 : Nat) (l0 : a0 < 256) (l1 : a1 < 256) (l2 : a2 < 256) (l3 : a3 < 256) (l4 : a4 < 256) (l5 : a5 < 256) (l6 : a6 < 256) (l7 : a7 < 256) : le64 a0 a1 a2 a3 a4 a5 a6 a7 < 18446744073709551616 := by
  unfold le64; omega
theorem take8_cells (s : ByteArray) : List.take (min s.size 8) (List.map (fun b : UInt8 => Value.int IntKind.u8 (b.toNat : Int)) s.data.toList) = ((strN s).take 8).map bV := by
  have hl : s.data.toList.length = s.size := by rw [Array.length_toList]; rfl
  rw [← List.take_take, List.take_of_length_le (by rw [List.length_take, List.length_map, hl]; omega)]
  simp only [strN, List.map_take, List.map_map]
  rfl
theorem pad8_cells (s : ByteArray) : (((List.replicate 8 0).map bV).toArray.toList.take (0 + 0) ++ ((strN s).take 8).map bV ++ ((List.replicate 8 0).map bV).toArray.toList.drop (0 + 0 + min s.size 8)).toArray = ((pad8 (strN s)).map bV).toArray := by
  congr 1
  simp only [pad8, Nat.add_zero, List.take_zero, List.nil_append, List.map_append, Nat.zero_add, List.map_replicate, List.drop_replicate, strN_length]
  congr 2
  omega
theorem run_copy8 {P : Program} (w : World) (dT sT ty elem : TypeId) (g : Nat) (s : ByteArray) (t : TypeId)
    (hu : P.underlying dT = some (.slice elem)) (hs : (P.info? elem).map (·.size) = some 1) (hg : w.heap[g]? = some (.cells ((List.replicate 8 0).map bV).toArray t (0, 0))) :
    (Builtin.copy_ #[dT, sT] ty #[.slice (some ⟨g, 0, none⟩) 8 8, .string s]).run P w = .ok (goInt ((min s.size 8 : Nat) : Int)) (w.setRow g ((pad8 (strN s)).map bV).toArray) := by
  have hlen : (((strN s).take 8).map bV).length = min s.size 8 := by rw [List.length_map, List.length_take, strN_length]; omega
  have hst := run_storeCells_at P g 0 t (((strN s).take 8).map bV) 0 _ w hg (by rw [hlen]; simp; omega) (by
    intro v hv
    simp only [List.mem_map] at hv
    obtain ⟨b, _, rfl⟩ := hv
    rfl)
  rw [hlen, pad8_cells, ← take8_cells] at hst
  generalize hm : ((min s.size 8 : Nat) : Int) = m
  have hm2 : ((s.size.min 8 : Nat) : Int) = m := hm
  cases hq : P.info? elem with
  | none => simp [hq] at hs
  | some i =>
    simp [Builtin.copy_, run_underlying hu, Builtin.lenOf, Builtin.firstCells, sizeOf, typeInfo, hq]
    rw [hm2, show s.size.min 8 = min s.size 8 from rfl, hst]
    rfl
theorem le64_val (a0 a1 a2 a3 a4 a5 a6 a7 : Nat) (l0 : a0 < 256) (l1 : a1 < 256) (l2 : a2 < 256) (l3 : a3 < 256) (l4 : a4 < 256) (l5 : a5 < 256) (l6 : a6 < 256) (l7 : a7 < 256) :
    bits .or .u64 (bits .or .u64 (bits .or .u64 (bits .or .u64 (bits .or .u64 (bits .or .u64 (bits .or .u64 (a0 : Int) ((a1 : Int) * 256)) ((a2 : Int) * 65536)) ((a3 : Int) * 16777216)) ((a4 : Int) * 4294967296)) ((a5 : Int) * 1099511627776)) ((a6 : Int) * 281474976710656)) ((a7 : Int) * 72057594037927936) = ((le64 a0 a1 a2 a3 a4 a5 a6 a7 : Nat) : Int) := by
  have e1 : ((a1 : Int) * 256) = ((a1 * 2 ^ 8 : Nat) : Int) := by simp
  have e2 : ((a2 : Int) * 65536) = ((a2 * 2 ^ 16 : Nat) : Int) := by simp
  have e3 : ((a3 : Int) * 16777216) = ((a3 * 2 ^ 24 : Nat) : Int) := by simp
  have e4 : ((a4 : Int) * 4294967296) = ((a4 * 2 ^ 32 : Nat) : Int) := by simp
  have e5 : ((a5 : Int) * 1099511627776) = ((a5 * 2 ^ 40 : Nat) : Int) := by simp
  have e6 : ((a6 : Int) * 281474976710656) = ((a6 * 2 ^ 48 : Nat) : Int) := by simp
  have e7 : ((a7 : Int) * 72057594037927936) = ((a7 * 2 ^ 56 : Nat) : Int) := by simp
  rw [e1, e2, e3, e4, e5, e6, e7]
  rw [bits_or_u64_nat _ _ (by omega) (by omega), or_add' _ _ 8 (by omega), bits_or_u64_nat _ _ (by omega) (by omega), or_add' _ _ 16 (by omega), bits_or_u64_nat _ _ (by omega) (by omega), or_add' _ _ 24 (by omega), bits_or_u64_nat _ _ (by omega) (by omega), or_add' _ _ 32 (by omega),
    bits_or_u64_nat _ _ (by omega) (by omega), or_add' _ _ 40 (by omega), bits_or_u64_nat _ _ (by omega) (by omega), or_add' _ _ 48 (by omega), bits_or_u64_nat _ _ (by omega) (by omega), or_add' _ _ 56 (by omega)]
  rfl
set_option maxRecDepth 100000 in
theorem le64_any (b off cap a0 a1 a2 a3 a4 a5 a6 a7 : Nat) (w : World) (h0 : w.cell? ⟨b, off, none⟩ = some (.int .u8 a0)) (h1 : w.cell? ⟨b, off + 1, none⟩ = some (.int .u8 a1)) (h2 : w.cell? ⟨b, off + 2, none⟩ = some (.int .u8 a2)) (h3 : w.cell? ⟨b, off + 3, none⟩ = some (.int .u8 a3))
    (h4 : w.cell? ⟨b, off + 4, none⟩ = some (.int .u8 a4)) (h5 : w.cell? ⟨b, off + 5, none⟩ = some (.int .u8 a5)) (h6 : w.cell? ⟨b, off + 6, none⟩ = some (.int .u8 a6)) (h7 : w.cell? ⟨b, off + 7, none⟩ = some (.int .u8 a7))
    (l0 : a0 < 256) (l1 : a1 < 256) (l2 : a2 < 256) (l3 : a3 < 256) (l4 : a4 < 256) (l5 : a5 < 256) (l6 : a6 < 256) (l7 : a7 < 256) :
    Calls Tryd.prog 73 #[.agg #[], .slice (some ⟨b, off, none⟩) 8 cap] w fun e w' => e = .returned (.int .u64 (le64 a0 a1 a2 a3 a4 a5 a6 a7)) ∧ Below w.heap.size w w' := by
  have hb := World.block_lt_of_cell? w _ h0
  go_enter Tryd.func73, Tryd.ntmps73
  go_wp2
  go_quiet (fail)
  go_wp2
  go_ret
  exact ⟨ret_int (le64_val a0 a1 a2 a3 a4 a5 a6 a7 l0 l1 l2 l3 l4 l5 l6 l7), below_drewN ((Below.refl _ _).alloc (Nat.le_refl _) _) _⟩
end Go.Proofs.YtpfmfigommmjiaaDoor
