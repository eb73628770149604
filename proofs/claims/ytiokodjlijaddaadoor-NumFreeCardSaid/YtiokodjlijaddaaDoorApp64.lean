/- XApp64 where floats are at hand: eight bytes of a word (to be filled as XApp64). -/
import Derived.Test.YtiokodjlijaddaaDoorFloatW
import Derived.Test.YtiokodjlijaddaaDoorNumPlain
namespace Go.Proofs.YtiokodjlijaddaaDoor
open Go.RowKit Plain
namespace Plain
theorem vl_be8 (g : Nat) (hg : g < 18446744073709551616) : vl (be8 g) = g := by
  have a1 : g / 65536 = g / 256 / 256 := by rw [Nat.div_div_eq_div_mul]
  have a2 : g / 16777216 = g / 65536 / 256 := by rw [Nat.div_div_eq_div_mul]
  have a3 : g / 4294967296 = g / 16777216 / 256 := by rw [Nat.div_div_eq_div_mul]
  have a4 : g / 1099511627776 = g / 4294967296 / 256 := by rw [Nat.div_div_eq_div_mul]
  have a5 : g / 281474976710656 = g / 1099511627776 / 256 := by rw [Nat.div_div_eq_div_mul]
  have a6 : g / 72057594037927936 = g / 281474976710656 / 256 := by rw [Nat.div_div_eq_div_mul]
  have a7 : g / 72057594037927936 < 256 := by omega
  simp only [be8, vl, List.foldl_cons, List.foldl_nil]
  generalize g / 72057594037927936 = g7 at *
  generalize g / 281474976710656 = g6 at *
  generalize g / 1099511627776 = g5 at *
  generalize g / 4294967296 = g4 at *
  generalize g / 16777216 = g3 at *
  generalize g / 65536 = g2 at *
  generalize h1 : g / 256 = g1 at *
  have e0 : g = 256 * g1 + g % 256 := by omega
  have e1 : g1 = 256 * g2 + g1 % 256 := by omega
  have e2 : g2 = 256 * g3 + g2 % 256 := by omega
  have e3 : g3 = 256 * g4 + g3 % 256 := by omega
  have e4 : g4 = 256 * g5 + g4 % 256 := by omega
  have e5 : g5 = 256 * g6 + g5 % 256 := by omega
  have e6 : g6 = 256 * g7 + g6 % 256 := by omega
  generalize g % 256 = r0 at *
  generalize g1 % 256 = r1 at *
  generalize g2 % 256 = r2 at *
  generalize g3 % 256 = r3 at *
  generalize g4 % 256 = r4 at *
  generalize g5 % 256 = r5 at *
  generalize g6 % 256 = r6 at *
  rw [Nat.mod_eq_of_lt a7]
  subst e6 e5 e4 e3 e2 e1
  omega
end Plain
end Go.Proofs.YtiokodjlijaddaaDoor
