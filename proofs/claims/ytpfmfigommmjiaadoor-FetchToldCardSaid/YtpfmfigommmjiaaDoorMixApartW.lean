/- MixApart: its walk. -/
import Derived.Test.YtpfmfigommmjiaaDoorBytesRow
import Derived.BigRegion
namespace Go.Proofs.YtpfmfigommmjiaaDoor
open Go.RowKit Plain
theorem eqId (l m : List Nat) (hl : l.length = 8) (hm : m.length = 8) (b : Bool) (hb : decide (l = m) = b) : (∀ wx, (Op.equal 43 (.agg (bC l)) (.agg (bC m))).run Tryd.prog wx = .ok b wx) ∧ (∀ wx, (binOp .eql 43 (.agg (bC l)) (.agg (bC m))).run Tryd.prog wx = .ok (.bool b) wx) ∧
    (∀ (x y : Operand) (wx : World), (eqGuard .eql 43 x y (.agg (bC l)) (.agg (bC m))).run Tryd.prog wx = .ok () wx) := by
  have hsome : (Tryd.prog.info? 5).isSome = true := by kernel_rfl
  obtain ⟨inf, hi⟩ := Option.isSome_iff_exists.1 hsome
  subst hb
  refine ⟨fun wx => run_equal_bytes wx Tryd.underlying43 Tryd.underlying5 hi (by kernel_rfl) l m hl hm, fun wx => run_eql_bytes wx Tryd.underlying43 Tryd.underlying5 hi (by kernel_rfl) l m hl hm, fun x y wx => ?_⟩
  have h : Tryd.prog.eqGuardType Tryd.prog.depth 43 = false := by kernel_rfl
  simp [eqGuard, h, go_sem, Sem.run_bind, Result.andThen]
theorem val_conv {P : Program} {o : Oper} {a : Act} {x : Operand} {f t : TypeId} {v u : Value} {w : World} (ho : o.op = .convert f t x) (hx : a.eval x = v) (hc : (convert f t v).run P w = .ok u w) : (execOp a.eval o).run P w = .ok (.value u) w := by
  unfold execOp
  simp only [ho, hx, Sem.run_bind, hc, Result.andThen_ok, Sem.run_pure]
theorem val_eqId {P : Program} {o : Oper} {a : Act} {x y : Operand} {t t2 : TypeId} {u v : Value} {b : Bool} {w : World} (ho : o.op = .binOp .eql t x y t2) (hx : a.eval x = u) (hy : a.eval y = v) (hr : (binOp .eql t u v).run P w = .ok (.bool b) w) (hg : (eqGuard .eql t x y u v).run P w = .ok () w) : (execOp a.eval o).run P w = .ok (.value (.bool b)) w := by
  unfold execOp
  simp only [ho, hx, hy, Sem.run_bind, hr, hg, Sem.run_pure, Result.andThen_ok]
theorem hsum_ab : hsum (strN ⟨#[97]⟩) ≠ hsum (strN ⟨#[98]⟩) := fun h => by
  have := hsum_apart 0 (strN ⟨#[97]⟩) (strN ⟨#[98]⟩) (strN_lt _) (strN_lt _) (by decide) (by decide) (by decide) (by decide) h
  exact absurd this (by decide)
theorem be8_length (h : Nat) : (be8 h).length = 8 := rfl
theorem id_bC (s : ByteArray) (w : World) (hs : s.size ≤ 9223372036854775807) : Calls Tryd.prog 34 #[.string s] w fun e w' => e = .returned (.agg (bC (be8 (hsum (strN s))))) ∧ Below w.heap.size w w' := id_any s w hs
end Go.Proofs.YtpfmfigommmjiaaDoor
