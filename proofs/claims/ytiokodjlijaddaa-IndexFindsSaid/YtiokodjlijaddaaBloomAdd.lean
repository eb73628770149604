/- The walk of bloom.Add: four bits are set. -/
import Derived.Test.YtiokodjlijaddaaBloomW
import Derived.Test.YtiokodjlijaddaaWords
import Derived.Test.YtiokodjlijaddaaArrays
import Derived.Test.YtiokodjlijaddaaBloomPlain
namespace Go.Proofs.Ytiokodjlijaddaa
open Go.RowKit Plain
theorem URow.setb {w : World} {e : TypeId} {B : Nat} {l : List Nat} (h : URow w e B l) (k : Nat) : URow (w.setCell ⟨B, k / 64, none⟩ (.int .u64 ((l.getD (k / 64) 0 ||| 2 ^ (k % 64) : Nat) : Int))) e B (setb l k) := h.set _ _
theorem wrap_pow (k : Nat) : IntKind.u64.wrap ((2 : Int) ^ (k % 64)) = ((2 ^ (k % 64) : Nat) : Int) := by
  have h := pow64_lt k
  have e : ((2 : Int) ^ (k % 64)) = ((2 ^ (k % 64) : Nat) : Int) := by simp
  rw [IntKind.wrap_u64, e]
  generalize 2 ^ (k % 64) = m at h
  omega
theorem arr8 (ia : Array Value) (h : ia.size = 8) : #[ia[0]'(by omega), ia[1]'(by omega), ia[2]'(by omega), ia[3]'(by omega), ia[4]'(by omega), ia[5]'(by omega), ia[6]'(by omega), ia[7]'(by omega)] = ia := by
  apply Array.ext
  · simp [h]
  · intro i h1 h2
    match i, h1 with
    | 0, _ => rfl
    | 1, _ => rfl
    | 2, _ => rfl
    | 3, _ => rfl
    | 4, _ => rfl
    | 5, _ => rfl
    | 6, _ => rfl
    | 7, _ => rfl
    | n + 8, _ => omega
theorem zeros16 : #[Value.int IntKind.u64 0, Value.int IntKind.u64 0, Value.int IntKind.u64 0, Value.int IntKind.u64 0, Value.int IntKind.u64 0, Value.int IntKind.u64 0, Value.int IntKind.u64 0, Value.int IntKind.u64 0, Value.int IntKind.u64 0, Value.int IntKind.u64 0, Value.int IntKind.u64 0, Value.int IntKind.u64 0, Value.int IntKind.u64 0, Value.int IntKind.u64 0, Value.int IntKind.u64 0, Value.int IntKind.u64 0] = uC (List.replicate 16 0) := rfl
end Go.Proofs.Ytiokodjlijaddaa
