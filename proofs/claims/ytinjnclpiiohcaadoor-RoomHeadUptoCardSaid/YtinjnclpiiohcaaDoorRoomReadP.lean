/- What room.Read has read so far (plain). -/
import Derived.Test.YtinjnclpiiohcaaDoorRoomPlain
namespace Go.Proofs.YtinjnclpiiohcaaDoor
namespace Plain
/-- no head stands here -/
def NoR (t : List Nat) : Prop := ∀ h u, ¬ RdH t h u
/-- a part read, or a fault -/
def Prt {α : Type} (p : List Nat → Option (α × List Nat)) (l : List Nat) (b : Bool) (a : α) (l' : List Nat) (b' : Bool) : Prop := (b = false ∧ p l = some (a, l') ∧ b' = false) ∨ ((b = true ∨ p l = none) ∧ b' = true)
def PkS (t : List Nat) (nx np : Nat) (P : List Nat) (l : List Nat) (b : Bool) : Prop := (b = false ∧ ∃ s1 s2, pNum 65536 t = some (nx, s1) ∧ pNum 100 s1 = some (np, s2) ∧ RepP (pNum 65536) P.length s2 P l) ∨ (b = true ∧ NoR t)
theorem PkS.start {t l1 l2 : List Nat} {nx np : Nat} {b1 b2 : Bool} (h1 : Prt (pNum 65536) t false nx l1 b1) (h2 : Prt (pNum 100) l1 b1 np l2 b2) : PkS t nx np [] l2 b2 := by
  have no : pNum 65536 t = none → NoR t := fun e h u ⟨s1, s2, s3, s4, k1, _⟩ => by rw [e] at k1; cases k1
  rcases h1 with ⟨_, h1, rfl⟩ | ⟨h1 | h1, rfl⟩
  · rcases h2 with ⟨_, h2, rfl⟩ | ⟨h2 | h2, rfl⟩
    · exact .inl ⟨rfl, l1, l2, h1, h2, .nil⟩
    · cases h2
    · refine .inr ⟨rfl, fun h u ⟨s1, s2, s3, s4, k1, k2, _⟩ => ?_⟩
      rw [h1] at k1
      simp only [Option.some.injEq, Prod.mk.injEq] at k1
      rw [← k1.2, h2] at k2
      cases k2
  · cases h1
  · rcases h2 with ⟨h2, _⟩ | ⟨_, rfl⟩
    · cases h2
    · exact .inr ⟨rfl, no h1⟩
theorem PkS.next {t l l' : List Nat} {nx np a : Nat} {P : List Nat} {b b' : Bool} (h : PkS t nx np P l b) (hl : P.length < np) (hp : Prt (pNum 65536) l b a l' b') : PkS t nx np (P ++ [a]) l' b' := by
  rcases h with ⟨rfl, s1, s2, k1, k2, k3⟩ | ⟨rfl, hn⟩
  · rcases hp with ⟨_, h2, rfl⟩ | ⟨h2 | h2, rfl⟩
    · refine .inl ⟨rfl, s1, s2, k1, k2, ?_⟩
      rw [List.length_append]
      exact k3.snoc h2
    · cases h2
    · refine .inr ⟨rfl, fun h u ⟨r1, r2, r3, r4, q1, q2, q3, _⟩ => ?_⟩
      rw [k1] at q1
      simp only [Option.some.injEq, Prod.mk.injEq] at q1
      obtain ⟨_, rfl⟩ := q1
      rw [k2] at q2
      simp only [Option.some.injEq, Prod.mk.injEq] at q2
      obtain ⟨e, rfl⟩ := q2
      obtain ⟨m, u', r, v, z1, z2⟩ := q3.part P.length (by rw [← e]; exact hl)
      obtain ⟨_, rfl⟩ := z1.unique k3
      rw [h2] at z2
      cases z2
  · rcases hp with ⟨h2, _⟩ | ⟨_, rfl⟩
    · cases h2
    · exact .inr ⟨rfl, hn⟩
def SnS (t : List Nat) (nx : Nat) (P : List Nat) (n : Nat) (S : List Sn) (l : List Nat) (b : Bool) : Prop := (b = false ∧ ∃ s1 s2 s3 s4, pNum 65536 t = some (nx, s1) ∧ pNum 100 s1 = some (P.length, s2) ∧ RepP (pNum 65536) P.length s2 P s3 ∧ pNum 20 s3 = some (n, s4) ∧ RepP pSn S.length s4 S l) ∨ (b = true ∧ NoR t)
theorem SnS.start {t l l' : List Nat} {nx np n : Nat} {P : List Nat} {b b' : Bool} (h : PkS t nx np P l b) (hl : P.length = np) (hp : Prt (pNum 20) l b n l' b') : SnS t nx P n [] l' b' := by
  subst hl
  rcases h with ⟨rfl, s1, s2, k1, k2, k3⟩ | ⟨rfl, hn⟩
  · rcases hp with ⟨_, h2, rfl⟩ | ⟨h2 | h2, rfl⟩
    · exact .inl ⟨rfl, s1, s2, l, l', k1, k2, k3, h2, .nil⟩
    · cases h2
    · refine .inr ⟨rfl, fun h u ⟨r1, r2, r3, r4, q1, q2, q3, q4, _⟩ => ?_⟩
      rw [k1] at q1
      simp only [Option.some.injEq, Prod.mk.injEq] at q1
      obtain ⟨_, rfl⟩ := q1
      rw [k2] at q2
      simp only [Option.some.injEq, Prod.mk.injEq] at q2
      obtain ⟨e, rfl⟩ := q2
      rw [← e] at q3
      obtain ⟨_, rfl⟩ := q3.unique k3
      rw [h2] at q4
      cases q4
  · rcases hp with ⟨h2, _⟩ | ⟨_, rfl⟩
    · cases h2
    · exact .inr ⟨rfl, hn⟩
theorem SnS.next {t l l' : List Nat} {nx n : Nat} {P : List Nat} {S : List Sn} {a : Sn} {b b' : Bool} (h : SnS t nx P n S l b) (hl : S.length < n) (hp : Prt pSn l b a l' b') : SnS t nx P n (S ++ [a]) l' b' := by
  rcases h with ⟨rfl, s1, s2, s3, s4, k1, k2, k3, k4, k5⟩ | ⟨rfl, hn⟩
  · rcases hp with ⟨_, h2, rfl⟩ | ⟨h2 | h2, rfl⟩
    · refine .inl ⟨rfl, s1, s2, s3, s4, k1, k2, k3, k4, ?_⟩
      rw [List.length_append]
      exact k5.snoc h2
    · cases h2
    · refine .inr ⟨rfl, fun h u ⟨r1, r2, r3, r4, q1, q2, q3, q4, q5⟩ => ?_⟩
      rw [k1] at q1
      simp only [Option.some.injEq, Prod.mk.injEq] at q1
      obtain ⟨_, rfl⟩ := q1
      rw [k2] at q2
      simp only [Option.some.injEq, Prod.mk.injEq] at q2
      obtain ⟨e, rfl⟩ := q2
      rw [← e] at q3
      obtain ⟨_, rfl⟩ := q3.unique k3
      rw [k4] at q4
      simp only [Option.some.injEq, Prod.mk.injEq] at q4
      obtain ⟨e2, rfl⟩ := q4
      obtain ⟨m, u', r, v, z1, z2⟩ := q5.part S.length (by rw [← e2]; exact hl)
      obtain ⟨_, rfl⟩ := z1.unique k5
      rw [h2] at z2
      cases z2
  · rcases hp with ⟨h2, _⟩ | ⟨_, rfl⟩
    · cases h2
    · exact .inr ⟨rfl, hn⟩
theorem SnS.done {t l : List Nat} {nx n : Nat} {P : List Nat} {S : List Sn} {b : Bool} (h : SnS t nx P n S l b) (hl : S.length = n) : (b = false ∧ RdH t (nx, P, S) l) ∨ (b = true ∧ NoR t) := by
  subst hl
  rcases h with ⟨rfl, s1, s2, s3, s4, k1, k2, k3, k4, k5⟩ | h
  · exact .inl ⟨rfl, s1, s2, s3, s4, k1, k2, k3, k4, k5⟩
  · exact .inr h
theorem esc_sub : ∀ (l : List Nat) {c : Nat}, c ∈ l → c ∈ esc l
  | [], _, h => h
  | 0 :: x, c, h => by
    rcases List.mem_cons.1 h with rfl | h
    · simp [esc]
    · have := esc_sub x h
      simp [esc, this]
  | (a + 1) :: x, c, h => by
    rcases List.mem_cons.1 h with rfl | h
    · simp [esc]
    · have := esc_sub x h
      simp [esc, this]
theorem putT_mem {l : List Nat} {c : Nat} (h : c ∈ l) : c ∈ putT l := List.mem_append_left _ (esc_sub l h)
/-- what a snapshot that was read is like -/
theorem pSn_some {s : List Nat} (hs : ∀ c ∈ s, c < 256) {x : Sn} {r : List Nat} (h : pSn s = some (x, r)) : (x.1.length ≤ 1024 ∧ ∀ c ∈ x.1, c < 256) ∧ x.2.1 ≤ 4223371679 ∧ x.2.2.length = 8 ∧ ∀ c ∈ x.2.2, c < 256 := by
  unfold pSn at h
  cases h1 : getT s with
  | none => rw [h1] at h; cases h
  | some p =>
    obtain ⟨t, s1⟩ := p
    obtain ⟨ht, hs1⟩ := getT_back h1
    have hb1 : ∀ c ∈ s1, c < 256 := fun c hc => hs c (by rw [hs1]; exact List.mem_append_right _ hc)
    have hbt : ∀ c ∈ t, c < 256 := fun c hc => hs c (by rw [hs1]; exact List.mem_append_left _ (putT_mem hc))
    rw [h1] at h
    simp only at h
    cases h2 : pNum 4223371679 s1 with
    | none => rw [h2] at h; cases h
    | some p =>
      obtain ⟨n, s2⟩ := p
      obtain ⟨hn, q, _, hs2⟩ := pNum_back hb1 h2
      rw [h2] at h
      simp only at h
      split at h
      · cases h
      · rename_i h8
        simp only [Option.some.injEq, Prod.mk.injEq] at h
        obtain ⟨rfl, _⟩ := h
        exact ⟨⟨ht, hbt⟩, hn, by rw [List.length_take]; omega, fun c hc => hb1 c (by rw [hs2]; exact List.mem_append_right _ (List.mem_of_mem_take hc))⟩
end Plain
end Go.Proofs.YtinjnclpiiohcaaDoor
