/- A drawn region cut off from what follows; what is held of the world made stronger on the way. -/
import Derived.Test.YtinjnclpiiohcaaDoorDet3
namespace Go.Proofs.YtinjnclpiiohcaaDoor
open Go.RowKit
section
variable {P : Program} {ops : Array Oper} {Q Q' : Exit → Act → World → Prop} {md : Region.Mode} {S S2 : World → Prop}
theorem wpAnyH_strong (hS : ∀ w, S2 w → S w) : ∀ (fuel : Nat) (listed : Array Bool) (a : Act) (w : World), wpAnyH P md ops Q S2 fuel listed a w → wpAnyH P md ops Q S fuel listed a w
  | 0, _, _, _, h => h
  | fuel + 1, _, _, _, h => ⟨h.1, fun i hi => wpOp_mono (fun a' w' h' => ⟨hS w' h'.1, wpAnyH_strong hS fuel _ a' w' h'.2⟩) (h.2 i hi)⟩
theorem wpOp_monoQ (hQ : ∀ e a w, Q e a w → Q' e a w) {i : Nat} {K : Act → World → Prop} {a : Act} {w : World} (h : wpOp P ops Q i K a w) : wpOp P ops Q' i K a w := by
  have hl : LetsOut Q → LetsOut Q' := fun ⟨a, w, h⟩ => ⟨a, w, hQ _ _ _ h⟩
  unfold wpOp at *
  split
  · rename_i ho; simpa [ho] using h
  · rename_i o ho
    simp only [ho] at h
    split
    · rename_i hw
      simp only [hw, if_true] at h
      refine h.imp (fun h => ?_) (fun h => ⟨h.1, hl h.2⟩)
      unfold Oper.wp at *
      generalize (execOp a.eval o).run P w = r at *
      cases r with
      | ok n w' =>
        cases n <;> simp only [Oper.upon] at h ⊢ <;>
          first
            | exact h
            | exact Calls.mono h (fun e w'' he => by cases e <;> first | exact he | exact hQ _ _ _ he | exact hl he)
      | halt x w' => cases x <;> simp only [Oper.upon] at h ⊢ <;> exact hQ _ _ _ h
    · rename_i hw; simp only [hw] at h; exact h
theorem wpAny_monoQ (hQ : ∀ e a w, Q e a w → Q' e a w) : ∀ (fuel : Nat) (listed : Array Bool) (a : Act) (w : World), wpAny P md ops Q fuel listed a w → wpAny P md ops Q' fuel listed a w
  | 0, _, _, _, h => ⟨h.1, hQ _ _ _ h.2⟩
  | fuel + 1, _, _, _, h => ⟨fun hr => hQ _ _ _ (h.1 hr), fun i hi => wpOp_mono (fun a' w' h' => wpAny_monoQ hQ fuel _ a' w' h') (wpOp_monoQ hQ (h.2 i hi))⟩
/-- what holds behind a region, and nothing else -/
def OnlyN (T : Act → World → Prop) (e : Exit) (a : Act) (w : World) : Prop := match e with
  | .normal => T a w
  | _ => False
/-- a drawn region cut off: what holds behind it, then the rest -/
theorem wp_region_mid {id : Nat} {a : Act} {w : World} (T : Act → World → Prop) (hm : P.follows .mixedOrders = true) (hT : ∀ a w, T a w → Q .normal a w)
    (h : wpAnyH P .any ops (OnlyN T) S ops.size (Array.replicate ops.size false) a w.drew) : (Code.region id ops true).wp P Q a w :=
  wp_region_any hm (wpAny_monoQ (fun e a w h => by cases e <;> first | exact hT _ _ h | exact h.elim) _ _ _ _ (wpAny_of_held _ _ _ _ h))
end
end Go.Proofs.YtinjnclpiiohcaaDoor
