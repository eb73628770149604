/- Short forms of the laws for drawn regions: the routine premises are shown by themselves. -/
import Derived.Test.YtpfmfigommmjiaaDoorFtC
import Derived.WalkKit
namespace Go.Proofs.YtpfmfigommmjiaaDoor
open Go.RowKit
section
variable {P : Program} {ops : Array Oper} {Q : Exit → Act → World → Prop} {md : Region.Mode} {S : World → Prop}
/-- take_val -/
theorem tv {fuel : Nat} {listed : Array Bool} {l l' : List Value} {df : List Deferred} {w : World} (i : Nat) (v : Value) {oi : Oper} {d : Nat} (hS : S w)
    (h : wpAnyH P md ops Q S fuel (listed.setIfInBounds i true) ⟨l'.toArray, df⟩ w)
    (hi : ops[i]? = some oi := by rfl) (hd : oi.dst = some d := by rfl) (he : l.set d v = l' := by simp only [List.set_cons_zero, List.set_cons_succ]; rfl) (hs : Region.noSelect ops = true := by kernel_rfl) (hf : Region.free md ops listed i = true := by kernel_rfl) (hr : (Region.ready md ops listed).contains i = true := by kernel_rfl)
    (hQ : ∀ c a w v, Q (.panic c) (a.put oi.dst v) w → Q (.panic c) a w := by exact fun _ _ _ _ h => h)
    (hw : Region.wanted oi (yielded ops l.toArray) = true := by rfl) (hv : ∀ w, S w → (execOp (Act.mk l.toArray df).eval oi).run P w = .ok (.value v) w := by intro wz hS; go_simp) :
    wpAnyH P md ops Q S (fuel + 1) listed ⟨l.toArray, df⟩ w := take_val i v hi hs hf hr hQ hw hd hv hS (by rw [he]; exact h)
/-- one_ready, with the slots laid out behind it -/
theorem rv {fuel : Nat} {listed : Array Bool} {l : List Value} {df : List Deferred} {w : World} (i : Nat) {o : Oper} {d : Nat}
    (h : ∀ K' : Act → World → Prop, Hid (∀ v w, S w → wpAnyH P md ops Q S fuel (listed.setIfInBounds i true) ⟨(l.set d v).toArray, df⟩ w → K' ((Act.mk l.toArray df).put o.dst v) w) → Oper.wp P o ⟨l.toArray, df⟩ w K' Q)
    (ho : ops[i]? = some o := by rfl) (hd : o.dst = some d := by rfl) (hr : Region.ready md ops listed = [i] := by kernel_rfl) (hw : Region.wanted o (yielded ops l.toArray) = true := by rfl) :
    wpAnyH P md ops Q S (fuel + 1) listed ⟨l.toArray, df⟩ w :=
  one_ready i hr ho hw fun K hK => h K (Lib.hid fun v w hS hx => hK.out _ _ hS (by rw [put_eq hd]; exact hx))
end
end Go.Proofs.YtpfmfigommmjiaaDoor
