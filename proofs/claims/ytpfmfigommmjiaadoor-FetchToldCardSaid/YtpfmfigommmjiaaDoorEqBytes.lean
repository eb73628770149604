/- '==' of arrays of bytes by value. -/
import Derived.Test.YtpfmfigommmjiaaDoorMixIdW
import Derived.Test.YtpfmfigommmjiaaDoorArrays
import Derived.ChangeKeysEq
namespace Go.Proofs.YtpfmfigommmjiaaDoor
open Plain
/-- an array of bytes -/
def bC (l : List Nat) : Array Value := (l.map bV).toArray
theorem bC_size (l : List Nat) : (bC l).size = l.length := by simp [bC]
theorem ext_getD {a b : List Nat} (h : a.length = b.length) (h2 : ∀ i, i < a.length → a.getD i 0 = b.getD i 0) : a = b := by
  apply List.ext_getElem h
  intro i h1 h3
  have := h2 i h1
  simpa [List.getD_eq_getElem?_getD, List.getElem?_eq_getElem h1, List.getElem?_eq_getElem h3] using this
theorem bC_get (l : List Nat) (i : Nat) (h : i < l.length) : (bC l)[i]? = some (.int .u8 ((l.getD i 0 : Nat) : Int)) := by
  simp [bC, List.getElem?_map, List.getD_eq_getElem?_getD, List.getElem?_eq_getElem h, bV]
theorem run_part_byte {P : Program} (w : World) {e : TypeId} {k : IntKind} (he : P.underlying e = some (.int k)) (l : List Nat) (i : Nat) (h : i < l.length) : (part e (bC l) i).run P w = .ok (.int .u8 ((l.getD i 0 : Nat) : Int)) w := by
  unfold part
  rw [Sem.run_bind, run_isAgg_int w he]
  simp [Result.andThen, bC_get l i h]
theorem run_eqItems_bytes {P : Program} (d : Nat) {e : TypeId} {k : IntKind} (he : P.underlying e = some (.int k)) (l m : List Nat) (w : World) : ∀ (is : List Nat), (∀ i ∈ is, i < l.length ∧ i < m.length) →
    (Op.eqItems (d + 1) e 1 (bC l) (bC m) is).run P w = .ok (is.all fun i => l.getD i 0 == m.getD i 0) w
  | [], _ => by simp [Op.eqItems]
  | i :: is, h => by
    have hi := h i (by simp)
    have ih := run_eqItems_bytes d he l m w is (fun j hj => h j (by simp [hj]))
    simp only [Op.eqItems, Sem.run_bind, Nat.mul_one, List.all_cons, run_part_byte w he l i hi.1, run_part_byte w he m i hi.2, Result.andThen_ok, Op.equalIn, run_underlying he, if_true, Sem.run_pure]
    generalize l.getD i 0 = x at *
    generalize m.getD i 0 = y at *
    have hb : (((x : Nat) : Int) == ((y : Nat) : Int)) = (x == y) := by
      rw [Bool.eq_iff_iff, beq_iff_eq, beq_iff_eq]; omega
    rw [hb]
    cases c : (x == y)
    · rfl
    · simp only [Bool.not_true, Bool.false_eq_true, if_false, Bool.true_and]
      exact ih
theorem all_range_eq (l m : List Nat) (n : Nat) (hl : l.length = n) (hm : m.length = n) : ((List.range n).all fun i => l.getD i 0 == m.getD i 0) = decide (l = m) := by
  rw [Bool.eq_iff_iff]
  simp only [List.all_eq_true, List.mem_range, beq_iff_eq, decide_eq_true_eq]
  constructor
  · intro h
    exact ext_getD (by rw [hl, hm]) (fun i hi => h i (by omega))
  · rintro rfl i _; rfl
theorem run_equal_bytes {P : Program} (w : World) {t e : TypeId} {n : Nat} {k : IntKind} {inf : TypeInfo} (ht : P.underlying t = some (.array n e)) (he : P.underlying e = some (.int k)) (hi : P.info? e = some inf) (hc : P.cellsOf e = 1)
    (l m : List Nat) (hl : l.length = n) (hm : m.length = n) : (Op.equal t (.agg (bC l)) (.agg (bC m))).run P w = .ok (decide (l = m)) w := by
  unfold Op.equal Op.maxDepth
  rw [run_equalIn_array w 9999 (bC l) (bC m) ht hi, hc, run_eqItems_bytes 9998 he l m w _ (fun i h => by rw [List.mem_range] at h; omega), all_range_eq l m n hl hm]
theorem run_eql_bytes {P : Program} (w : World) {t e : TypeId} {n : Nat} {k : IntKind} {inf : TypeInfo} (ht : P.underlying t = some (.array n e)) (he : P.underlying e = some (.int k)) (hi : P.info? e = some inf) (hc : P.cellsOf e = 1)
    (l m : List Nat) (hl : l.length = n) (hm : m.length = n) : (binOp .eql t (.agg (bC l)) (.agg (bC m))).run P w = .ok (.bool (decide (l = m))) w := by
  unfold binOp
  simp only [Sem.run_bind, run_equal_bytes w ht he hi hc l m hl hm, Result.andThen_ok, Sem.run_pure]
end Go.Proofs.YtpfmfigommmjiaaDoor
