/- What a turn of one row leaves of the others. -/
import Derived.Test.YtigdpmeeibkifaaAmpleGen
namespace Go.Proofs.Ytigdpmeeibkifaa
open Go.RowKit
theorem SAt.grown {α : Type} {n : Nat} {c : α → List Value} {w w' : World} {a : Option Addr} {l : List α} {g : Nat} (h : SAt n c w a l) (hg : w.grownBy w' (some g)) (hne : ∀ ad, a = some ad → ad.block ≠ g) : SAt n c w' a l := fun i hi => by
  obtain ⟨b, off, e, hb, hr⟩ := h i hi
  refine ⟨b, off, e, Nat.lt_of_lt_of_le hb hg.size, fun j u hu => ?_⟩
  rw [World.cell?_of_block (a := ⟨b, off + i * n + j, none⟩) (hg.block b hb (fun e2 => hne _ e (by injection e2)))]
  exact hr j u hu
theorem Amp.grown {α : Type} {c : α → List Value} {z : List Value} {t : TypeId} {w w' : World} {b g : Nat} {l : List α} {f : α} (h : Amp c z t w b l f) (hg : w.grownBy w' (some g)) (hne : b ≠ g) : Amp c z t w' b l f :=
  (hg.block b (lt_of_block h) (fun e => hne (by injection e))).trans h
theorem below_grown {B g : Nat} {a w w' : World} (h : Below B a w) (hg : w.grownBy w' (some g)) (hB : B ≤ w.heap.size) (hBg : B ≤ g) : Below B a w' := h.grown hg hB (fun k e => by injection e with e; omega)
/-- the slice lies in a block from B on, or nowhere -/
def NB (B : Nat) (a : Option Addr) : Prop := ∀ ad, a = some ad → B ≤ ad.block
theorem NB.ne {B : Nat} {a : Option Addr} (h : NB B a) {g : Nat} (hg : g < B) : ∀ ad, a = some ad → ad.block ≠ g := fun ad e => by have := h ad e; omega
theorem NB.mono {B C : Nat} {a : Option Addr} (h : NB B a) (hC : C ≤ B) : NB C a := fun ad e => Nat.le_trans hC (h ad e)
theorem nb_own {w : World} {base : Nat} {a : Option Addr} {T : TypeId} {k n m c : Nat} {xs : List Value} (h : w.ownsRow base T k (.slice a m c) n xs) : NB base a := by
  intro ad e
  rcases h.2 with ⟨h0, _⟩ | ⟨g, c', cur, h0, hbg, _⟩
  · injection h0 with h0 _ _
    rw [e] at h0
    cases h0
  · injection h0 with h0 _ _
    rw [e] at h0
    injection h0 with h0
    subst h0
    exact hbg
theorem Amp.cells {α : Type} {c : α → List Value} {n : Nat} {z : List Value} {t : TypeId} {w : World} {b : Nat} {l : List α} {f : α} (h : Amp c z t w b l f) (hc : ∀ y, (c y).length = n) (hz : z.length = n) : ∃ cs, w.heap[b]? = some (.cells cs t (0, 0)) ∧ cs.size = (l.length + 3) * n := by
  refine ⟨_, h, ?_⟩
  simp only [List.size_toArray, List.length_append, flat_length hc, hc, hz, Nat.add_mul]
  omega
end Go.Proofs.Ytigdpmeeibkifaa
