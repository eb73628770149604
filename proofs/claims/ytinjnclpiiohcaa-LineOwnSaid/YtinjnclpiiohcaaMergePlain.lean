/- The plain law of merging: what is left of a list that is sorted, of equal names the first. -/
namespace Go.Proofs.Ytinjnclpiiohcaa
namespace Plain
/-- a comparison -/
structure Cmp {α : Type} (c : α → α → Int) : Prop where
  neg : ∀ x y, c y x = - c x y
  trans : ∀ x y z, c x y < 0 → c y z < 0 → c x z < 0
  cong : ∀ x y z, c x y = 0 → c x z = c y z
def orI (a b : Int) : Int := if a = 0 then b else a
theorem Cmp.self {α : Type} {c : α → α → Int} (C : Cmp c) (x : α) : c x x = 0 := by
  have := C.neg x x
  omega
theorem Cmp.cong' {α : Type} {c : α → α → Int} (C : Cmp c) {x y : α} (z : α) (h : c x y = 0) : c z x = c z y := by
  rw [C.neg x z, C.neg y z, C.cong x y z h]
theorem Cmp.orI {α : Type} {c d : α → α → Int} (C : Cmp c) (D : Cmp d) : Cmp fun x y => Plain.orI (c x y) (d x y) where
  neg x y := by
    unfold Plain.orI
    have h1 := C.neg x y
    have h2 := D.neg x y
    by_cases h : c x y = 0
    · rw [if_pos h, if_pos (by omega), h2]
    · rw [if_neg h, if_neg (by omega), h1]
  trans x y z h1 h2 := by
    unfold Plain.orI at *
    by_cases e1 : c x y = 0
    · rw [if_pos e1] at h1
      rw [C.cong x y z e1]
      by_cases e2 : c y z = 0
      · rw [if_pos e2] at h2 ⊢
        exact D.trans x y z h1 h2
      · rw [if_neg e2] at h2 ⊢
        exact h2
    · rw [if_neg e1] at h1
      by_cases e2 : c y z = 0
      · rw [← C.cong' x e2, if_neg e1]
        exact h1
      · rw [if_neg e2] at h2
        have := C.trans x y z h1 h2
        rw [if_neg (by omega)]
        exact this
  cong x y z h := by
    unfold Plain.orI at *
    by_cases e1 : c x y = 0
    · rw [if_pos e1] at h
      rw [C.cong x y z e1, D.cong x y z h]
    · rw [if_neg e1] at h
      exact absurd h e1
theorem Cmp.ntrans {α : Type} {c : α → α → Int} (C : Cmp c) {x y z : α} (h1 : ¬ c x y < 0) (h2 : ¬ c y z < 0) : ¬ c x z < 0 := by
  intro h
  by_cases e1 : c x y = 0
  · rw [C.cong x y z e1] at h; omega
  · by_cases e2 : c y z = 0
    · rw [← C.cong' x e2] at h; omega
    · have a1 := C.neg x y
      have a2 := C.neg y z
      have := C.trans z y x (by omega) (by omega)
      have a3 := C.neg x z
      omega
/-- the names' comparison and the whole one -/
structure Ords {α : Type} (ic cf : α → α → Int) : Prop where
  idC : Cmp ic
  cfC : Cmp cf
  sub : ∀ x y, ic x y < 0 → cf x y < 0
  tot : ∀ x y, cf x y = 0 → x = y
/-- what stays: of neighbours with the same name the first -/
def cpt {α : Type} (ic : α → α → Int) : List α → List α
  | [] => []
  | [x] => [x]
  | x :: y :: t => if ic y x = 0 then x :: (cpt ic (y :: t)).tail else x :: cpt ic (y :: t)
theorem cpt_head {α : Type} (ic : α → α → Int) : ∀ (x : α) (t : List α), ∃ r, cpt ic (x :: t) = x :: r
  | x, [] => ⟨[], rfl⟩
  | x, y :: t => by
    rw [cpt]
    by_cases h : ic y x = 0
    · rw [if_pos h]; exact ⟨_, rfl⟩
    · rw [if_neg h]; exact ⟨_, rfl⟩
theorem cpt_length {α : Type} (ic : α → α → Int) : ∀ l : List α, (cpt ic l).length ≤ l.length
  | [] => by simp [cpt]
  | [x] => by simp [cpt]
  | x :: y :: t => by
    have ih := cpt_length ic (y :: t)
    rw [cpt]
    by_cases h : ic y x = 0
    · rw [if_pos h]
      simp only [List.length_cons, List.length_tail] at ih ⊢
      omega
    · rw [if_neg h]
      simp only [List.length_cons] at ih ⊢
      omega
structure Srt {α : Type} (ic cf : α → α → Int) (l r : List α) : Prop where
  up : r.Pairwise fun x y => ic x y < 0
  mem : ∀ p, p ∈ r ↔ p ∈ l ∧ ∀ q ∈ l, ic q p = 0 → ¬ cf q p < 0
  all : ∀ q ∈ l, ∃ p ∈ r, ic p q = 0 ∧ ¬ cf q p < 0
variable {α : Type} {ic cf : α → α → Int}
theorem Srt.same {l m r : List α} (h : Srt ic cf l r) (e : ∀ p, p ∈ l ↔ p ∈ m) : Srt ic cf m r where
  up := h.up
  mem p := by
    rw [h.mem p, e p]
    constructor
    · rintro ⟨h1, h2⟩
      exact ⟨h1, fun q hq => h2 q ((e q).2 hq)⟩
    · rintro ⟨h1, h2⟩
      exact ⟨h1, fun q hq => h2 q ((e q).1 hq)⟩
  all q hq := h.all q ((e q).2 hq)
theorem up_unique (C : Cmp ic) : ∀ {r s : List α}, r.Pairwise (fun x y => ic x y < 0) → s.Pairwise (fun x y => ic x y < 0) → (∀ p, p ∈ r ↔ p ∈ s) → r = s
  | [], [], _, _, _ => rfl
  | [], y :: s, _, _, h => absurd ((h y).2 (by simp)) (by simp)
  | x :: r, [], _, _, h => absurd ((h x).1 (by simp)) (by simp)
  | x :: r, y :: s, h1, h2, h => by
    rw [List.pairwise_cons] at h1 h2
    have e : x = y := by
      have m1 := (h x).1 (by simp)
      have m2 := (h y).2 (by simp)
      rcases List.mem_cons.1 m1 with m1 | m1
      · exact m1
      · rcases List.mem_cons.1 m2 with m2 | m2
        · exact m2.symm
        · have a1 := h2.1 x m1
          have a2 := h1.1 y m2
          have a3 := C.neg x y
          omega
    subst e
    rw [up_unique C h1.2 h2.2 fun p => ?_]
    have hp := h p
    simp only [List.mem_cons] at hp
    constructor
    · intro m
      rcases hp.1 (Or.inr m) with e | e
      · subst e
        have := h1.1 p m
        rw [C.self] at this
        omega
      · exact e
    · intro m
      rcases hp.2 (Or.inr m) with e | e
      · subst e
        have := h2.1 p m
        rw [C.self] at this
        omega
      · exact e
theorem Srt.unique (O : Ords ic cf) {l r s : List α} (h : Srt ic cf l r) (g : Srt ic cf l s) : r = s :=
  up_unique O.idC h.up g.up fun p => by rw [h.mem, g.mem]
theorem up_alone (C : Cmp ic) {r : List α} (h : r.Pairwise fun x y => ic x y < 0) {p q : α} (hp : p ∈ r) (hq : q ∈ r) (e : ic q p = 0) : q = p := by
  induction r with
  | nil => simp at hp
  | cons x r ih =>
    rw [List.pairwise_cons] at h
    rcases List.mem_cons.1 hp with hp' | hp'
    · rcases List.mem_cons.1 hq with hq' | hq'
      · rw [hp', hq']
      · have := h.1 q hq'
        rw [← hp'] at this
        have a := C.neg q p
        omega
    · rcases List.mem_cons.1 hq with hq' | hq'
      · have := h.1 p hp'
        rw [← hq'] at this
        omega
      · exact ih h.2 hp' hq'
theorem Srt.own (O : Ords ic cf) {r : List α} (h : r.Pairwise fun x y => ic x y < 0) : Srt ic cf r r where
  up := h
  mem p := by
    constructor
    · intro hp
      refine ⟨hp, fun q hq e => ?_⟩
      rw [up_alone O.idC h hp hq e, O.cfC.self]
      omega
    · exact fun hp => hp.1
  all q hq := ⟨q, hq, O.idC.self q, by rw [O.cfC.self]; omega⟩
/-- a part that was sorted before does not matter -/
theorem Srt.part (O : Ords ic cf) {l m c r : List α} (h : Srt ic cf l m) (g : Srt ic cf (m ++ c) r) : Srt ic cf (l ++ c) r where
  up := g.up
  mem p := by
    rw [g.mem p]
    constructor
    · rintro ⟨h1, h2⟩
      refine ⟨?_, fun q hq e => ?_⟩
      · rcases List.mem_append.1 h1 with h1 | h1
        · exact List.mem_append.2 (Or.inl ((h.mem p).1 h1).1)
        · exact List.mem_append.2 (Or.inr h1)
      · rcases List.mem_append.1 hq with hq | hq
        · obtain ⟨u, hu, e1, e2⟩ := h.all q hq
          have := h2 u (List.mem_append.2 (Or.inl hu)) (by rw [O.idC.cong u q p e1]; exact e)
          exact O.cfC.ntrans e2 this
        · exact h2 q (List.mem_append.2 (Or.inr hq)) e
    · rintro ⟨h1, h2⟩
      refine ⟨?_, fun q hq e => ?_⟩
      · rcases List.mem_append.1 h1 with h1 | h1
        · exact List.mem_append.2 (Or.inl ((h.mem p).2 ⟨h1, fun q hq => h2 q (List.mem_append.2 (Or.inl hq))⟩))
        · exact List.mem_append.2 (Or.inr h1)
      · rcases List.mem_append.1 hq with hq | hq
        · exact h2 q (List.mem_append.2 (Or.inl ((h.mem q).1 hq).1)) e
        · exact h2 q (List.mem_append.2 (Or.inr hq)) e
  all q hq := by
    rcases List.mem_append.1 hq with hq | hq
    · obtain ⟨u, hu, e1, e2⟩ := h.all q hq
      obtain ⟨v, hv, e3, e4⟩ := g.all u (List.mem_append.2 (Or.inl hu))
      exact ⟨v, hv, by rw [O.idC.cong v u q e3]; exact e1, O.cfC.ntrans e2 e4⟩
    · exact g.all q (List.mem_append.2 (Or.inr hq))
theorem Srt.swap {l c r : List α} (h : Srt ic cf (l ++ c) r) : Srt ic cf (c ++ l) r :=
  h.same fun p => by simp only [List.mem_append]; exact Or.comm
theorem Srt.part' (O : Ords ic cf) {l m c r : List α} (h : Srt ic cf l m) (g : Srt ic cf (c ++ m) r) : Srt ic cf (c ++ l) r :=
  (h.part O g.swap).swap
theorem cpt_mem {p : α} : ∀ {l : List α}, p ∈ cpt ic l → p ∈ l
  | [], h => h
  | [x], h => h
  | x :: y :: t, h => by
    rw [cpt] at h
    by_cases e : ic y x = 0
    · rw [if_pos e] at h
      rcases List.mem_cons.1 h with h | h
      · exact List.mem_cons.2 (Or.inl h)
      · exact List.mem_cons.2 (Or.inr (cpt_mem (l := y :: t) (List.mem_of_mem_tail h)))
    · rw [if_neg e] at h
      rcases List.mem_cons.1 h with h | h
      · exact List.mem_cons.2 (Or.inl h)
      · exact List.mem_cons.2 (Or.inr (cpt_mem (l := y :: t) h))
theorem cpt_srt (O : Ords ic cf) : ∀ {l : List α}, (l.Pairwise fun x y => ¬ cf y x < 0) → Srt ic cf l (cpt ic l)
  | [], _ => ⟨List.Pairwise.nil, fun p => by simp [cpt], fun q hq => by simp at hq⟩
  | [x], _ => by
    have : cpt ic [x] = [x] := rfl
    rw [this]
    exact Srt.own O (by simp)
  | x :: y :: t, h => by
    rw [List.pairwise_cons] at h
    have ih := cpt_srt O h.2
    obtain ⟨r, hr⟩ := cpt_head ic y t
    rw [cpt, hr]
    rw [hr] at ih
    have hle : ∀ q ∈ y :: t, ¬ ic q x < 0 := fun q hq hh => h.1 q hq (O.sub q x hh)
    have hup := List.pairwise_cons.1 ih.up
    by_cases e : ic y x = 0
    · rw [if_pos e, List.tail_cons]
      have exy : ∀ z, ic x z = ic y z := fun z => (O.idC.cong y x z e).symm
      refine ⟨List.pairwise_cons.2 ⟨fun z hz => by rw [exy]; exact hup.1 z hz, hup.2⟩, fun p => ?_, fun q hq => ?_⟩
      · constructor
        · intro hp
          rcases List.mem_cons.1 hp with hp | hp
          · subst hp
            refine ⟨by simp, fun q hq _ => ?_⟩
            rcases List.mem_cons.1 hq with hq | hq
            · subst hq; rw [O.cfC.self]; omega
            · exact h.1 q hq
          · obtain ⟨a1, a2⟩ := (ih.mem p).1 (List.mem_cons.2 (Or.inr hp))
            refine ⟨List.mem_cons.2 (Or.inr a1), fun q hq eq => ?_⟩
            rcases List.mem_cons.1 hq with hq | hq
            · rw [hq] at eq
              have := hup.1 p (by assumption)
              rw [exy] at eq
              omega
            · exact a2 q hq eq
        · rintro ⟨h1, h2⟩
          rcases List.mem_cons.1 h1 with h1 | h1
          · exact List.mem_cons.2 (Or.inl h1)
          · have hm := (ih.mem p).2 ⟨h1, fun q hq => h2 q (List.mem_cons.2 (Or.inr hq))⟩
            rcases List.mem_cons.1 hm with hm | hm
            · subst hm
              have a1 := h2 x (by simp) (by rw [exy, O.idC.self])
              have a2 := h.1 p h1
              have a3 := O.cfC.neg x p
              exact List.mem_cons.2 (Or.inl (O.tot p x (by omega)))
            · exact List.mem_cons.2 (Or.inr hm)
      · rcases List.mem_cons.1 hq with hq | hq
        · subst hq
          exact ⟨q, by simp, O.idC.self q, by rw [O.cfC.self]; omega⟩
        · obtain ⟨u, hu, e1, e2⟩ := ih.all q hq
          rcases List.mem_cons.1 hu with hu | hu
          · subst hu
            exact ⟨x, by simp, by rw [exy]; exact e1, h.1 q hq⟩
          · exact ⟨u, List.mem_cons.2 (Or.inr hu), e1, e2⟩
    · rw [if_neg e]
      have hxy : ic x y < 0 := by
        have a1 := hle y (by simp)
        have a2 := O.idC.neg x y
        omega
      have hall : ∀ z ∈ y :: r, ic x z < 0 := fun z hz => by
        rcases List.mem_cons.1 hz with hz | hz
        · subst hz; exact hxy
        · exact O.idC.trans x y z hxy (hup.1 z hz)
      have hfar : ∀ q ∈ y :: t, ic x q < 0 := fun q hq => by
        obtain ⟨u, hu, e1, _⟩ := ih.all q hq
        have := hall u hu
        rw [← O.idC.cong' x e1]
        exact this
      refine ⟨List.pairwise_cons.2 ⟨hall, ih.up⟩, fun p => ?_, fun q hq => ?_⟩
      · constructor
        · intro hp
          rcases List.mem_cons.1 hp with hp | hp
          · subst hp
            refine ⟨by simp, fun q hq _ => ?_⟩
            rcases List.mem_cons.1 hq with hq | hq
            · subst hq; rw [O.cfC.self]; omega
            · exact h.1 q hq
          · obtain ⟨a1, a2⟩ := (ih.mem p).1 hp
            refine ⟨List.mem_cons.2 (Or.inr a1), fun q hq eq => ?_⟩
            rcases List.mem_cons.1 hq with hq | hq
            · subst hq
              have := hfar p a1
              omega
            · exact a2 q hq eq
        · rintro ⟨h1, h2⟩
          rcases List.mem_cons.1 h1 with h1 | h1
          · exact List.mem_cons.2 (Or.inl h1)
          · exact List.mem_cons.2 (Or.inr ((ih.mem p).2 ⟨h1, fun q hq => h2 q (List.mem_cons.2 (Or.inr hq))⟩))
      · rcases List.mem_cons.1 hq with hq | hq
        · subst hq
          exact ⟨q, by simp, O.idC.self q, by rw [O.cfC.self]; omega⟩
        · obtain ⟨u, hu, e1, e2⟩ := ih.all q hq
          exact ⟨u, List.mem_cons.2 (Or.inr hu), e1, e2⟩
end Plain
end Go.Proofs.Ytinjnclpiiohcaa
