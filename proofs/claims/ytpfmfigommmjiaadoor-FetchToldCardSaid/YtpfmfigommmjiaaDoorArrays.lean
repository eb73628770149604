/- An index into an array by value. -/
import Derived.WalkKit
import Derived.WalkSpells
import Derived.WalkLawsBesides
namespace Go.Proofs.YtpfmfigommmjiaaDoor
theorem run_isAgg_int {P : Program} (w : World) {e : TypeId} {k : IntKind} (he : P.underlying e = some (.int k)) : (isAgg e).run P w = .ok false w := by
  unfold isAgg
  rw [Sem.run_bind, run_underlying he w]
  rfl
theorem run_sizeOf_of {P : Program} (w : World) {e : TypeId} {n : Nat} (hi : (P.info? e).map (·.size) = some n) : (Go.sizeOf e).run P w = .ok n w := by
  cases hq : P.info? e with
  | none => simp [hq] at hi
  | some i =>
    have hs : i.size = n := by simpa [hq] using hi
    simp [Go.sizeOf, typeInfo, hq, hs]
/-- 'a[i]' of an array of integers by value -/
theorem run_index_ints {P : Program} (w : World) (t e : TypeId) (n : Nat) (k kk : IntKind) (cs : Array Value) (i : Int) (ht : P.underlying t = some (.array n e)) (he : P.underlying e = some (.int kk)) (hi : (P.info? e).map (·.size) = some 1)
    (h0 : 0 ≤ i) (h1 : i < (n : Int)) (hc : cs.size = n) : (Instr.index t (.agg cs) (.int k i)).run P w = .ok (cs[i.toNat]'(by omega)) w := by
  have hin : 0 ≤ i ∧ i < (n : Int) := ⟨h0, h1⟩
  have hget : cs[i.toNat]? = some (cs[i.toNat]'(by omega)) := Array.getElem?_eq_getElem (by omega)
  simp [Instr.index, run_underlying ht, asIntOf, hin, go_sem, Sem.run_bind, run_sizeOf_of w hi, run_isAgg_int w he, hget]
end Go.Proofs.YtpfmfigommmjiaaDoor
