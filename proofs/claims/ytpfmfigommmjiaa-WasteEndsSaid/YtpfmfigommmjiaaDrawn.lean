/- Laws for drawn regions that are walked by hand: the state is laid out anew at each step. -/
import Derived.Test.YtpfmfigommmjiaaWords
import Derived.Deep.RegionHeld3
namespace Go.Proofs.Ytpfmfigommmjiaa
open Go.RowKit
section
variable {P : Program} {ops : Array Oper} {Q : Exit → Act → World → Prop} {md : Region.Mode} {S : World → Prop}
/-- A load of a long array comes up first. -/
theorem take_row {fuel : Nat} {listed : Array Bool} {l : List Value} {df : List Deferred} {w : World} (i : Nat) {oi : Oper} {d : Nat} {ty : TypeId} {x : Operand} {b o : Nat} {cs : List Value} {ds : TypeDesc}
    (hi : ops[i]? = some oi) (hs : Region.noSelect ops = true) (hf : Region.free md ops listed i = true) (hr : (Region.ready md ops listed).contains i = true)
    (hQ : ∀ c a w v, Q (.panic c) (a.put oi.dst v) w → Q (.panic c) a w)
    (hw : Region.wanted oi (yielded ops l.toArray) = true) (hd : oi.dst = some d) (ho : oi.op = .load ty x) (hx : (Act.mk l.toArray df).eval x = .pointer (some ⟨b, o, none⟩))
    (hS' : ∀ w, S w → w.rangeAt b o cs) (hu : P.underlying ty = some ds) (hrow : ds.isRow = true) (hsz : (P.info? ty).map (·.size) = some cs.length) (hS : S w)
    (h : wpAnyH P md ops Q S fuel (listed.setIfInBounds i true) ⟨(l.set d (.agg cs.toArray)).toArray, df⟩ w) : wpAnyH P md ops Q S (fuel + 1) listed ⟨l.toArray, df⟩ w := by
  refine wpAnyH_take (i := i) (oi := oi) (v := .agg cs.toArray) hi hs hf hr (fun c a w => hQ c a w _) (yieldsIf_load_mid hw ty x ho b o hx cs ds hS' hu hrow hsz) hS ?_
  simpa only [hd, Act.put, List.setIfInBounds_toArray] using h
/-- An operation that is not wanted comes up first. -/
theorem take_not {fuel : Nat} {listed : Array Bool} {l : List Value} {df : List Deferred} {w : World} (i : Nat) {oi : Oper} {d : Nat}
    (hi : ops[i]? = some oi) (hs : Region.noSelect ops = true) (hf : Region.free md ops listed i = true) (hr : (Region.ready md ops listed).contains i = true)
    (hQ : ∀ c a w v, Q (.panic c) (a.put oi.dst v) w → Q (.panic c) a w)
    (hw : Region.wanted oi (yielded ops l.toArray) = false) (hd : oi.dst = some d) (hS : S w)
    (h : wpAnyH P md ops Q S fuel (listed.setIfInBounds i true) ⟨(l.set d undef).toArray, df⟩ w) : wpAnyH P md ops Q S (fuel + 1) listed ⟨l.toArray, df⟩ w := by
  refine wpAnyH_take (i := i) (oi := oi) (v := undef) hi hs hf hr (fun c a w => hQ c a w _) (Or.inr ⟨hw, rfl⟩) hS ?_
  simpa only [hd, Act.put, List.setIfInBounds_toArray] using h
/-- An operation whose value is the same in every world comes up first. -/
theorem take_val {fuel : Nat} {listed : Array Bool} {l : List Value} {df : List Deferred} {w : World} (i : Nat) {oi : Oper} {d : Nat} (v : Value)
    (hi : ops[i]? = some oi) (hs : Region.noSelect ops = true) (hf : Region.free md ops listed i = true) (hr : (Region.ready md ops listed).contains i = true)
    (hQ : ∀ c a w v, Q (.panic c) (a.put oi.dst v) w → Q (.panic c) a w)
    (hw : Region.wanted oi (yielded ops l.toArray) = true) (hd : oi.dst = some d) (hv : ∀ w, S w → (execOp (Act.mk l.toArray df).eval oi).run P w = .ok (.value v) w) (hS : S w)
    (h : wpAnyH P md ops Q S fuel (listed.setIfInBounds i true) ⟨(l.set d v).toArray, df⟩ w) : wpAnyH P md ops Q S (fuel + 1) listed ⟨l.toArray, df⟩ w := by
  refine wpAnyH_take (i := i) (oi := oi) (v := v) hi hs hf hr (fun c a w => hQ c a w _) (Or.inl ⟨hw, hv⟩) hS ?_
  simpa only [hd, Act.put, List.setIfInBounds_toArray] using h
/-- One operation alone is ready. -/
theorem one_ready {fuel : Nat} {listed : Array Bool} {a : Act} {w : World} (i : Nat) {o : Oper} (hr : Region.ready md ops listed = [i]) (ho : ops[i]? = some o)
    (hw : Region.wanted o (yielded ops a.tmps) = true)
    (h : ∀ K' : Act → World → Prop, Hid (∀ a w, S w → wpAnyH P md ops Q S fuel (listed.setIfInBounds i true) a w → K' a w) → Oper.wp P o a w K' Q) : wpAnyH P md ops Q S (fuel + 1) listed a w := by
  refine wpAnyH_ready hr (by simp) (AllReadyH.cons ho (fun K hK => ?_) AllReadyH.nil)
  rw [if_pos hw]
  exact h K (Lib.hid fun a w hS hx => hK.out a w hS fun _ => hx)
/-- Two operations are ready. -/
theorem two_ready {fuel : Nat} {listed : Array Bool} {a : Act} {w : World} (i j : Nat) {o p : Oper} (hr : Region.ready md ops listed = [i, j]) (ho : ops[i]? = some o) (hp : ops[j]? = some p)
    (hw : Region.wanted o (yielded ops a.tmps) = true) (hw2 : Region.wanted p (yielded ops a.tmps) = true)
    (h : ∀ K' : Act → World → Prop, Hid (∀ a w, S w → wpAnyH P md ops Q S fuel (listed.setIfInBounds i true) a w → K' a w) → Oper.wp P o a w K' Q)
    (h2 : ∀ K' : Act → World → Prop, Hid (∀ a w, S w → wpAnyH P md ops Q S fuel (listed.setIfInBounds j true) a w → K' a w) → Oper.wp P p a w K' Q) : wpAnyH P md ops Q S (fuel + 1) listed a w := by
  refine wpAnyH_ready hr (by simp) (AllReadyH.cons ho (fun K hK => ?_) (AllReadyH.cons hp (fun K hK => ?_) AllReadyH.nil))
  · rw [if_pos hw]
    exact h K (Lib.hid fun a w hS hx => hK.out a w hS fun _ => hx)
  · rw [if_pos hw2]
    exact h2 K (Lib.hid fun a w hS hx => hK.out a w hS fun _ => hx)
/-- What an operation that yields a value leaves to be shown. -/
theorem put_eq {l : List Value} {df : List Deferred} {o : Oper} {d : Nat} {v : Value} (hd : o.dst = some d) : (Act.mk l.toArray df).put o.dst v = ⟨(l.set d v).toArray, df⟩ := by
  simp only [hd, Act.put, List.setIfInBounds_toArray]
end
end Go.Proofs.Ytpfmfigommmjiaa
