/- What the reading of an array of integers by value that came in tells the walk. -/
import Derived.Test.YtbfhhnpoogmlnaaDoorBase0
import Derived.WalkKit
import Derived.ChangeOld
import Derived.ShutString
import Derived.ProofKit
import Derived.OpenShut
namespace Go.Proofs.YtbfhhnpoogmlnaaDoor
namespace Plain
end Plain
open Go.RowKit Go.ChangeShapes Go.WideShapes Go.ChangeAt Plain
theorem mapM_some {α β : Type} {f : α → Option β} : ∀ (L : List α) (ys : List β), L.mapM f = some ys → ∀ x ∈ L, ∃ y, f x = some y
  | [], _, _, x, hx => by simp at hx
  | a :: L, ys, h, x, hx => by
    rw [List.mapM_cons] at h
    simp only [bind, Option.bind_eq_some_iff, pure, Option.some.injEq] at h
    obtain ⟨y, hy, zs, hz, rfl⟩ := h
    rcases List.mem_cons.1 hx with rfl | hx
    · exact ⟨y, hy⟩
    · exact mapM_some L zs hz x hx
theorem ints_of {k : IntKind} : ∀ (vs : List Value), (∀ v ∈ vs, ∃ n, v = .int k n ∧ (Lit.int k n).wf = true) → ∃ zs : List Int, vs = zs.map (Value.int k) ∧ ∀ z ∈ zs, (Lit.int k z).wf = true
  | [], _ => ⟨[], rfl, by simp⟩
  | v :: vs, h => by
    obtain ⟨n, rfl, hn⟩ := h v (by simp)
    obtain ⟨zs, rfl, hz⟩ := ints_of vs (fun u hu => h u (by simp [hu]))
    refine ⟨n :: zs, rfl, fun z hz' => ?_⟩
    rcases List.mem_cons.1 hz' with rfl | hz'
    · exact hn
    · exact hz z hz'
theorem open_ints_arr {H : Type} {P : Program} {enc : TypeId × Value → H} {W : World} {base : Nat} {sp : Nat → Bool} {held : Bool} {r : Reach} {b0 : Nat} {t e : TypeId} {n : Nat} {k : IntKind} {v : Value} {d : DataW H} {p : List MemPlace}
    (ht : P.underlying t = some (.array n e)) (he : P.underlying e = some (.int k)) (hc : P.cellsOf e = 1) (hn : P.cellsOf t = n) (ho : Value.okWide P W r b0 t v) (hd : DataW.Trod enc P W base sp held t v d p) :
    ∃ zs : List Int, v = .agg (zs.map (Value.int k)).toArray ∧ zs.length = n ∧ ∀ z ∈ zs, (Lit.int k z).wf = true := by
  simp only [Value.okWide, ht] at ho
  obtain ⟨cs, rfl, h2, _⟩ := ho
  rw [hn] at h2
  obtain ⟨fuel, hf⟩ := hd
  cases fuel with
  | zero => simp [DataW.trod] at hf
  | succ m =>
    rw [DataW.trod_step] at hf
    unfold DataW.trodStep at hf
    simp only [ht, Value.cells] at hf
    rw [if_pos (by rw [hn]; simpa using h2)] at hf
    simp only [Option.map_eq_some_iff] at hf
    obtain ⟨ys, hy, _⟩ := hf
    have hall := mapM_some _ _ hy
    obtain ⟨zs, hz, hw⟩ := ints_of (k := k) cs.toList (fun u hu => by
      obtain ⟨i, hi, rfl⟩ := List.mem_iff_getElem.1 hu
      have hi' : i < n := by rw [Array.length_toList] at hi; omega
      obtain ⟨y, hy⟩ := hall i (by simpa using hi')
      rw [hc, Nat.mul_one] at hy
      obtain ⟨a, ea, _, wa⟩ := DataW.trod_int he hy
      rw [List.drop_eq_getElem_cons hi] at ea
      simp only [List.take_succ_cons, List.take_zero, List.cons.injEq, and_true] at ea
      exact ⟨a, ea, wa⟩)
    refine ⟨zs, by rw [← hz], ?_, hw⟩
    have := congrArg List.length hz
    rw [List.length_map, Array.length_toList] at this
    omega
end Go.Proofs.YtbfhhnpoogmlnaaDoor
