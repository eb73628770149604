/- An old snapshot's bytes: what move.record lays down and move's reader reads (plain). -/
import Derived.Test.YtmdodcpmbhehdaaDoorRoomPlain
namespace Go.Proofs.YtmdodcpmbhehdaaDoor
namespace Plain
/-- an item: path, kind, mode, time, bytes -/
abbrev Im := List Nat × Int × Int × Int × List Nat
def EncIm (x : Im) (f : List Nat) : Prop := ∃ a b c, Num x.2.2.1.toNat a ∧ INum x.2.2.2.1 b ∧ Num x.2.2.2.2.length c ∧ f = putT x.1 ++ (x.2.1.toNat :: (a ++ (b ++ (c ++ x.2.2.2.2))))
theorem EncIm.unique (x : Im) (f g : List Nat) (h : EncIm x f) (k : EncIm x g) : f = g := by
  obtain ⟨a, b, c, h1, h2, h3, rfl⟩ := h
  obtain ⟨a', b', c', k1, k2, k3, rfl⟩ := k
  rw [h1.unique k1, h2.unique k2, h3.unique k3]
def ImB (x : Im) : Prop := x.1.length ≤ 1024 ∧ (0 ≤ x.2.1 ∧ x.2.1 < 256) ∧ (0 ≤ x.2.2.1 ∧ x.2.2.1 ≤ 511) ∧ (-9223372036854775808 ≤ x.2.2.2.1 ∧ x.2.2.2.1 ≤ 9223372036854775807) ∧ x.2.2.2.2.length ≤ 4096
noncomputable def pIm (s : List Nat) : Option (Im × List Nat) :=
  match getT s with
  | none => none
  | some (path, s1) => match s1 with
    | [] => none
    | k :: s2 => match pNum 511 s2 with
      | none => none
      | some (mode, s3) => match pInt s3 with
        | none => none
        | some (time, s4) => match pNum 4096 s4 with
          | none => none
          | some (n, s5) => if s5.length < n then none else some ((path, (k : Int), (mode : Int), time, s5.take n), s5.drop n)
theorem pIm_enc (x : Im) (f : List Nat) (h : EncIm x f) (hb : ImB x) (more : List Nat) : pIm (f ++ more) = some (x, more) := by
  obtain ⟨path, k, mode, time, bytes⟩ := x
  obtain ⟨a, b, c, h1, h2, h3, rfl⟩ := h
  obtain ⟨b1, b2, b3, b4, b5⟩ := hb
  simp only at h1 h2 h3 b1 b2 b3 b4 b5
  have e : putT path ++ (k.toNat :: (a ++ (b ++ (c ++ bytes)))) ++ more = putT path ++ (k.toNat :: (a ++ (b ++ (c ++ (bytes ++ more))))) := by simp
  unfold pIm
  simp only
  rw [e, getT_put b1]
  simp only
  rw [pNum_num h1 (by omega)]
  simp only
  rw [pInt_num h2 b4]
  simp only
  rw [pNum_num h3 b5]
  simp only
  rw [if_neg (by rw [List.length_append]; omega), List.take_left, List.drop_left]
  have e1 : ((k.toNat : Nat) : Int) = k := by omega
  have e2 : ((mode.toNat : Nat) : Int) = mode := by omega
  rw [e1, e2]
/-- an old snapshot: name, time, items -/
abbrev Ol := List Nat × Nat × List Im
def EncOl (o : Ol) (f : List Nat) : Prop := ∃ a b W, Num o.2.1 a ∧ Num o.2.2.length b ∧ EncL EncIm o.2.2 W ∧ f = putT o.1 ++ (a ++ (b ++ W))
theorem EncOl.unique {o : Ol} {f g : List Nat} (h : EncOl o f) (k : EncOl o g) : f = g := by
  obtain ⟨a, b, W, h1, h2, h3, rfl⟩ := h
  obtain ⟨a', b', W', k1, k2, k3, rfl⟩ := k
  rw [h1.unique k1, h2.unique k2, EncL.unique EncIm.unique h3 k3]
def OlB (o : Ol) : Prop := o.1.length ≤ 1024 ∧ o.2.1 ≤ 4223371679 ∧ o.2.2.length ≤ 100 ∧ ∀ x ∈ o.2.2, ImB x
def RdO (t : List Nat) (o : Ol) (u : List Nat) : Prop := ∃ s1 s2 s3, getT t = some (o.1, s1) ∧ pNum 4223371679 s1 = some (o.2.1, s2) ∧ pNum 100 s2 = some (o.2.2.length, s3) ∧ RepP pIm o.2.2.length s3 o.2.2 u
theorem EncOl.rd {o : Ol} {f : List Nat} (h : EncOl o f) (hb : OlB o) : RdO f o [] := by
  obtain ⟨a, b, W, h1, h2, h3, rfl⟩ := h
  obtain ⟨b1, b2, b3, b4⟩ := hb
  have e := h3.rep pIm_enc b4 []
  rw [List.append_nil] at e
  exact ⟨_, _, _, getT_put b1 _, pNum_num h1 b2 _, pNum_num h2 b3 _, e⟩
/-- a part read, or a fault -/
def PrtM {α : Type} (p : List Nat → Option (α × List Nat)) (l : List Nat) (b : Bool) (a : α) (l' : List Nat) (b' : Bool) : Prop := (b = false ∧ p l = some (a, l') ∧ b' = false) ∨ ((b = true ∨ p l = none) ∧ b' = true)
/-- no old snapshot stands here -/
def NoO (t : List Nat) : Prop := ∀ o u, ¬ RdO t o u
/-- what has been read of a snapshot -/
def ImS (t : List Nat) (nm : List Nat) (tm n : Nat) (S : List Im) (l : List Nat) (b : Bool) : Prop := (b = false ∧ ∃ s1 s2 s3, getT t = some (nm, s1) ∧ pNum 4223371679 s1 = some (tm, s2) ∧ pNum 100 s2 = some (n, s3) ∧ RepP pIm S.length s3 S l) ∨ (b = true ∧ NoO t)
theorem ImS.start {t l1 l2 l3 nm : List Nat} {tm n : Nat} {b1 b2 b3 : Bool} (h1 : PrtM getT t false nm l1 b1) (h2 : PrtM (pNum 4223371679) l1 b1 tm l2 b2) (h3 : PrtM (pNum 100) l2 b2 n l3 b3) : ImS t nm tm n [] l3 b3 := by
  rcases h1 with ⟨_, h1, rfl⟩ | ⟨h1 | h1, rfl⟩
  · rcases h2 with ⟨_, h2, rfl⟩ | ⟨h2 | h2, rfl⟩
    · rcases h3 with ⟨_, h3, rfl⟩ | ⟨h3 | h3, rfl⟩
      · exact .inl ⟨rfl, l1, l2, l3, h1, h2, h3, .nil⟩
      · cases h3
      · refine .inr ⟨rfl, fun o u ⟨s1, s2, s3, k1, k2, k3, _⟩ => ?_⟩
        rw [h1] at k1
        simp only [Option.some.injEq, Prod.mk.injEq] at k1
        rw [← k1.2, h2] at k2
        simp only [Option.some.injEq, Prod.mk.injEq] at k2
        rw [← k2.2, h3] at k3
        cases k3
    · cases h2
    · rcases h3 with ⟨h3, _⟩ | ⟨_, rfl⟩
      · cases h3
      refine .inr ⟨rfl, fun o u ⟨s1, s2, s3, k1, k2, k3, _⟩ => ?_⟩
      rw [h1] at k1
      simp only [Option.some.injEq, Prod.mk.injEq] at k1
      rw [← k1.2, h2] at k2
      cases k2
  · cases h1
  · have hb2 : b2 = true := by
      rcases h2 with ⟨h2, _⟩ | ⟨_, h2⟩
      · cases h2
      · exact h2
    subst hb2
    rcases h3 with ⟨h3, _⟩ | ⟨_, rfl⟩
    · cases h3
    exact .inr ⟨rfl, fun o u ⟨s1, s2, s3, k1, _⟩ => by rw [h1] at k1; cases k1⟩
theorem ImS.next {t nm l l' : List Nat} {tm n : Nat} {S : List Im} {b b' : Bool} {a : Im} (h : ImS t nm tm n S l b) (hl : S.length < n) (hp : PrtM pIm l b a l' b') : ImS t nm tm n (S ++ [a]) l' b' := by
  rcases h with ⟨rfl, s1, s2, s3, k1, k2, k3, k4⟩ | ⟨rfl, hn⟩
  · rcases hp with ⟨_, h2, rfl⟩ | ⟨h2 | h2, rfl⟩
    · refine .inl ⟨rfl, s1, s2, s3, k1, k2, k3, ?_⟩
      rw [List.length_append]
      exact k4.snoc h2
    · cases h2
    · refine .inr ⟨rfl, fun o u ⟨r1, r2, r3, q1, q2, q3, q4⟩ => ?_⟩
      rw [k1] at q1
      simp only [Option.some.injEq, Prod.mk.injEq] at q1
      obtain ⟨_, rfl⟩ := q1
      rw [k2] at q2
      simp only [Option.some.injEq, Prod.mk.injEq] at q2
      obtain ⟨_, rfl⟩ := q2
      rw [k3] at q3
      simp only [Option.some.injEq, Prod.mk.injEq] at q3
      obtain ⟨e, rfl⟩ := q3
      obtain ⟨m, u', r, v, z1, z2⟩ := q4.part S.length (by rw [← e]; exact hl)
      obtain ⟨_, rfl⟩ := z1.unique k4
      rw [h2] at z2
      cases z2
  · rcases hp with ⟨h2, _⟩ | ⟨_, rfl⟩
    · cases h2
    · exact .inr ⟨rfl, hn⟩
theorem ImS.fin {t nm l : List Nat} {tm n : Nat} {S : List Im} {b : Bool} (h : ImS t nm tm n S l b) (hl : S.length = n ∨ b = true) : ∀ o u, RdO t o u → o = (nm, tm, S) := by
  intro o u ho
  rcases h with ⟨rfl, s1, s2, s3, k1, k2, k3, k4⟩ | ⟨_, hn⟩
  · rcases hl with hl | hl
    · subst hl
      obtain ⟨r1, r2, r3, q1, q2, q3, q4⟩ := ho
      rw [k1] at q1
      simp only [Option.some.injEq, Prod.mk.injEq] at q1
      obtain ⟨e1, rfl⟩ := q1
      rw [k2] at q2
      simp only [Option.some.injEq, Prod.mk.injEq] at q2
      obtain ⟨e2, rfl⟩ := q2
      rw [k3] at q3
      simp only [Option.some.injEq, Prod.mk.injEq] at q3
      obtain ⟨e3, rfl⟩ := q3
      rw [← e3] at q4
      obtain ⟨e4, rfl⟩ := q4.unique k4
      obtain ⟨o1, o2, o3⟩ := o
      simp only at e1 e2 e4
      rw [e1, e2, e4]
    · cases hl
  · exact absurd ho (hn o u)
end Plain
end Go.Proofs.YtmdodcpmbhehdaaDoor
