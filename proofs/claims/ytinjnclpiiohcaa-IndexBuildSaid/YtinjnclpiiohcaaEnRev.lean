/- slices.Reverse over entries. -/
import Derived.Test.YtinjnclpiiohcaaEnClone
import Derived.Test.YtinjnclpiiohcaaShelf2
namespace Go.Proofs.Ytinjnclpiiohcaa
open Go.RowKit Plain
set_option maxRecDepth 100000 in
theorem isAgg_en (w : World) : (isAgg (Try.revEn_ren.t 23)).run Try.prog w = .ok true w := by kernel_rfl
set_option maxRecDepth 100000 in
theorem sizeOf_en (w : World) : (Go.sizeOf (Try.revEn_ren.t 23)).run Try.prog w = .ok 11 w := by kernel_rfl
theorem revE_any (base : Nat) (a : Option Addr) (cap : Nat) (l : List En) (w : World) (hown : w.ownsRow base 78 11 (.slice a l.length cap) l.length (l.flatMap enC)) (hl : l.length ≤ 1000) :
    Calls Try.prog 44 #[.slice a l.length cap] w fun e w' => e = .returned (.tuple #[]) ∧ w'.ownsRow base 78 11 (.slice a l.length cap) l.length (l.reverse.flatMap enC) ∧ Below base w w' := by
  rcases hown.2 with ⟨h0, hn⟩ | ⟨g, c', cur, h0, hr⟩
  · injection h0 with h1 _ h3
    subst h1 h3
    have hnil := List.length_eq_zero_iff.1 hn
    subst hnil
    have h := Proofs.AnyQ.slices_Reverse_empty Try.revEn none 0 w
    change Calls Try.prog 44 _ _ _ at h
    refine h.mono ?_
    rintro e w' ⟨rfl, rfl⟩
    exact ⟨rfl, hown, Below.refl _ _⟩
  · injection h0 with h1 _ h3
    subst h1 h3
    obtain ⟨hbg, hgw, hnc, hc63, _⟩ := own_block hown
    have h := Proofs.AnyQ.slices_Reverse Try.revEn 11 isAgg_en sizeOf_en enC enC_length (fun x v hv => enC_one x v hv) g 0 cap l.toArray w (holdsK_own enC_length hown) (by simp; omega)
    change Calls Try.prog 44 _ _ _ at h
    rw [show l.toArray.size = l.length from by simp] at h
    refine h.mono ?_
    rintro e w' ⟨rfl, n, rfl⟩
    have e0 : Sort.putRowK enC 11 (Sort.ahead w n) g 0 l.toArray.reverse = Proofs.sortWorldK enC 11 w g 0 n l.reverse.toArray #[] := by
      unfold Proofs.sortWorldK Sort.grow
      simp
    have h2 := own_sortK enC_length hown n l.reverse (by simp) #[]
    have h3 := below_sortK (k := 11) (c := enC) (Below.refl _ w) hbg hgw n l.reverse.toArray #[]
    rw [List.length_reverse] at h2
    rw [e0]
    exact ⟨rfl, h2, h3⟩
end Go.Proofs.Ytinjnclpiiohcaa
