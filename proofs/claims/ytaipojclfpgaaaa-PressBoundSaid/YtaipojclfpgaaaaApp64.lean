/- Eight bytes of a word: what they are, and binary.BigEndian.AppendUint64. -/
import Derived.Test.YtaipojclfpgaaaaBytesOwn
import Derived.Test.YtaipojclfpgaaaaNumPlain
import Derived.Test.YtaipojclfpgaaaaRows
namespace Go.Proofs.Ytaipojclfpgaaaa
open Go.RowKit Plain
namespace Plain
def be8 (h : Nat) : List Nat := [h / 72057594037927936 % 256, h / 281474976710656 % 256, h / 1099511627776 % 256, h / 4294967296 % 256, h / 16777216 % 256, h / 65536 % 256, h / 256 % 256, h % 256]
theorem be8_lt (h : Nat) : ∀ c ∈ be8 h, c < 256 := by
  intro c hc
  simp only [be8, List.mem_cons, List.not_mem_nil, or_false] at hc
  rcases hc with rfl | rfl | rfl | rfl | rfl | rfl | rfl | rfl <;> exact Nat.mod_lt _ (by decide)
theorem vl_be8 (g : Nat) (hg : g < 18446744073709551616) : vl (be8 g) = g := by
  have a1 : g / 65536 = g / 256 / 256 := by rw [Nat.div_div_eq_div_mul]
  have a2 : g / 16777216 = g / 65536 / 256 := by rw [Nat.div_div_eq_div_mul]
  have a3 : g / 4294967296 = g / 16777216 / 256 := by rw [Nat.div_div_eq_div_mul]
  have a4 : g / 1099511627776 = g / 4294967296 / 256 := by rw [Nat.div_div_eq_div_mul]
  have a5 : g / 281474976710656 = g / 1099511627776 / 256 := by rw [Nat.div_div_eq_div_mul]
  have a6 : g / 72057594037927936 = g / 281474976710656 / 256 := by rw [Nat.div_div_eq_div_mul]
  have a7 : g / 72057594037927936 < 256 := by omega
  simp only [be8, vl, List.foldl_cons, List.foldl_nil]
  generalize g / 72057594037927936 = g7 at *
  generalize g / 281474976710656 = g6 at *
  generalize g / 1099511627776 = g5 at *
  generalize g / 4294967296 = g4 at *
  generalize g / 16777216 = g3 at *
  generalize g / 65536 = g2 at *
  generalize h1 : g / 256 = g1 at *
  have e0 : g = 256 * g1 + g % 256 := by omega
  have e1 : g1 = 256 * g2 + g1 % 256 := by omega
  have e2 : g2 = 256 * g3 + g2 % 256 := by omega
  have e3 : g3 = 256 * g4 + g3 % 256 := by omega
  have e4 : g4 = 256 * g5 + g4 % 256 := by omega
  have e5 : g5 = 256 * g6 + g5 % 256 := by omega
  have e6 : g6 = 256 * g7 + g6 % 256 := by omega
  generalize g % 256 = r0 at *
  generalize g1 % 256 = r1 at *
  generalize g2 % 256 = r2 at *
  generalize g3 % 256 = r3 at *
  generalize g4 % 256 = r4 at *
  generalize g5 % 256 = r5 at *
  generalize g6 % 256 = r6 at *
  rw [Nat.mod_eq_of_lt a7]
  subst e6 e5 e4 e3 e2 e1
  omega
end Plain
theorem info_byte : (Try.prog.info? 5).map (fun i => (i.zero, i.size, i.bytes)) = some (some (.int .u8 0), 1, 1) := by kernel_rfl
theorem be8_cells (h : Nat) : [Value.int .u8 ((h : Int) / 72057594037927936 % 256), .int .u8 ((h : Int) / 281474976710656 % 256), .int .u8 ((h : Int) / 1099511627776 % 256), .int .u8 ((h : Int) / 4294967296 % 256), .int .u8 ((h : Int) / 16777216 % 256), .int .u8 ((h : Int) / 65536 % 256), .int .u8 ((h : Int) / 256 % 256), .int .u8 ((h : Int) % 256)] = (be8 h).map bV := by
  simp only [be8, List.map_cons, List.map_nil, bV]
  simp
def App64End (w0 : World) (x : Nat) (e : Ending) (w : World) : Prop := ∃ v, e = .returned v ∧ w.ownsRow w0.heap.size 5 1 v (be8 x).length ((be8 x).map bV) ∧ Below w0.heap.size w0 w
end Go.Proofs.Ytaipojclfpgaaaa
