/- A head's bytes: what room.Write lays down and room.Read reads (plain). -/
import Derived.Test.YtmdodcpmbhehdaaDoorTreePlain
namespace Go.Proofs.YtmdodcpmbhehdaaDoor
namespace Plain
section
variable {α : Type}
/-- the bytes of a list, one behind the other -/
inductive EncL (E : α → List Nat → Prop) : List α → List Nat → Prop
  | nil : EncL E [] []
  | snoc {l : List α} {r : α} {t f : List Nat} : EncL E l t → E r f → EncL E (l ++ [r]) (t ++ f)
/-- so many read -/
inductive RepP (p : List Nat → Option (α × List Nat)) : Nat → List Nat → List α → List Nat → Prop
  | nil {s : List Nat} : RepP p 0 s [] s
  | snoc {n : Nat} {s u t : List Nat} {l : List α} {r : α} : RepP p n s l u → p u = some (r, t) → RepP p (n + 1) s (l ++ [r]) t
theorem RepP.unique {p : List Nat → Option (α × List Nat)} {n : Nat} {s t : List Nat} {l : List α} (h : RepP p n s l t) : ∀ {m : List α} {u : List Nat}, RepP p n s m u → l = m ∧ t = u := by
  induction h with
  | nil => intro m u g; cases g; exact ⟨rfl, rfl⟩
  | snoc _ h2 ih =>
    intro m u g
    cases g with
    | snoc g1 g2 =>
      obtain ⟨rfl, rfl⟩ := ih g1
      rw [h2] at g2
      cases g2
      exact ⟨rfl, rfl⟩
theorem RepP.length {p : List Nat → Option (α × List Nat)} {n : Nat} {s t : List Nat} {l : List α} (h : RepP p n s l t) : l.length = n := by
  induction h with
  | nil => rfl
  | snoc _ _ ih => rw [List.length_append, ih]; rfl
theorem EncL.rep {E : α → List Nat → Prop} {p : List Nat → Option (α × List Nat)} {Ok : α → Prop} (hp : ∀ a f, E a f → Ok a → ∀ more, p (f ++ more) = some (a, more)) {l : List α} {f : List Nat} (h : EncL E l f) : (∀ r ∈ l, Ok r) → ∀ more, RepP p l.length (f ++ more) l more := by
  induction h with
  | nil => intro _ more; exact .nil
  | snoc h1 h2 ih =>
    intro hok more
    rw [List.length_append, List.append_assoc]
    exact .snoc (ih (fun r hr => hok r (List.mem_append_left _ hr)) _) (hp _ _ h2 (hok _ (List.mem_append_right _ (List.mem_singleton.2 rfl))) more)
theorem RepP.part {p : List Nat → Option (α × List Nat)} {n : Nat} {s t : List Nat} {l : List α} (h : RepP p n s l t) : ∀ k, k < n → ∃ m u r v, RepP p k s m u ∧ p u = some (r, v) := by
  induction h with
  | nil => intro k hk; omega
  | @snoc n s u t l r h1 h2 ih =>
    intro k hk
    rcases Nat.lt_or_ge k n with h | h
    · exact ih k h
    · obtain rfl : k = n := by omega
      exact ⟨l, u, r, t, h1, h2⟩
theorem EncL.unique {E : α → List Nat → Prop} (hE : ∀ a f g, E a f → E a g → f = g) : ∀ {l : List α} {t u : List Nat}, EncL E l t → EncL E l u → t = u := by
  have key : ∀ {m : List α} {t : List Nat}, EncL E m t → (m = [] ∧ t = []) ∨ ∃ l r u f, m = l ++ [r] ∧ t = u ++ f ∧ EncL E l u ∧ E r f := by
    intro m t h
    cases h with
    | nil => exact .inl ⟨rfl, rfl⟩
    | snoc h1 h2 => exact .inr ⟨_, _, _, _, rfl, rfl, h1, h2⟩
  intro l
  induction hn : l.length generalizing l with
  | zero =>
    intro t u h g
    obtain rfl := List.eq_nil_of_length_eq_zero hn
    rcases key h with ⟨_, rfl⟩ | ⟨x, y, _, _, e, _⟩
    · rcases key g with ⟨_, rfl⟩ | ⟨x, y, _, _, e, _⟩
      · rfl
      · simp at e
    · simp at e
  | succ n ih =>
    intro t u h g
    rcases key h with ⟨rfl, _⟩ | ⟨x, y, a, b, rfl, rfl, h1, h2⟩
    · simp at hn
    · rcases key g with ⟨e, _⟩ | ⟨x', y', a', b', e, rfl, g1, g2⟩
      · simp at e
      · obtain ⟨rfl, e2⟩ := List.append_inj' e rfl
        injection e2 with e2 _
        subst e2
        rw [ih (by simpa using hn) h1 g1, hE _ _ _ h2 g2]
end
/-- a snapshot: name, time, root -/
abbrev Sn := List Nat × Nat × List Nat
def EncSn (x : Sn) (f : List Nat) : Prop := ∃ b, Num x.2.1 b ∧ f = putT x.1 ++ (b ++ x.2.2)
theorem EncSn.unique (x : Sn) (f g : List Nat) (h : EncSn x f) (k : EncSn x g) : f = g := by
  obtain ⟨b, h1, rfl⟩ := h
  obtain ⟨c, k1, rfl⟩ := k
  rw [h1.unique k1]
def SnB (x : Sn) : Prop := x.1.length ≤ 1024 ∧ x.2.1 ≤ 4223371679 ∧ x.2.2.length = 8
noncomputable def pSn (s : List Nat) : Option (Sn × List Nat) :=
  match getT s with
  | none => none
  | some (name, s1) => match pNum 4223371679 s1 with
    | none => none
    | some (time, s2) => if s2.length < 8 then none else some ((name, time, s2.take 8), s2.drop 8)
theorem pSn_enc (x : Sn) (f : List Nat) (h : EncSn x f) (hb : SnB x) (more : List Nat) : pSn (f ++ more) = some (x, more) := by
  obtain ⟨b, hn, rfl⟩ := h
  obtain ⟨name, time, root⟩ := x
  obtain ⟨h1, h2, h3⟩ := hb
  simp only at hn h1 h2 h3 ⊢
  unfold pSn
  rw [List.append_assoc, getT_put h1]
  simp only
  rw [List.append_assoc, pNum_num hn h2]
  simp only
  rw [if_neg (by rw [List.length_append]; omega), List.take_left' h3, List.drop_left' h3]
/-- a head: the next number, the packs, the snapshots -/
abbrev Hd := Nat × List Nat × List Sn
def HTx (h : Hd) (t : List Nat) : Prop := ∃ a b P c S, Num h.1 a ∧ Num h.2.1.length b ∧ EncL Num h.2.1 P ∧ Num h.2.2.length c ∧ EncL EncSn h.2.2 S ∧ t = a ++ (b ++ (P ++ (c ++ S)))
theorem HTx.unique {h : Hd} {t u : List Nat} (x : HTx h t) (y : HTx h u) : t = u := by
  obtain ⟨a, b, P, c, S, h1, h2, h3, h4, h5, rfl⟩ := x
  obtain ⟨a', b', P', c', S', k1, k2, k3, k4, k5, rfl⟩ := y
  have e3 : P = P' := EncL.unique (E := fun (n : Nat) f => Num n f) (fun _ _ _ u v => Num.unique u v) h3 k3
  have e5 : S = S' := EncL.unique EncSn.unique h5 k5
  rw [h1.unique k1, h2.unique k2, e3, h4.unique k4, e5]
/-- what is read, and what stands behind it -/
def RdH (t : List Nat) (h : Hd) (u : List Nat) : Prop := ∃ s1 s2 s3 s4, pNum 65536 t = some (h.1, s1) ∧ pNum 100 s1 = some (h.2.1.length, s2) ∧ RepP (pNum 65536) h.2.1.length s2 h.2.1 s3 ∧ pNum 20 s3 = some (h.2.2.length, s4) ∧ RepP pSn h.2.2.length s4 h.2.2 u
def HdB (h : Hd) : Prop := h.1 ≤ 65536 ∧ (h.2.1.length ≤ 100 ∧ ∀ p ∈ h.2.1, p ≤ 65536) ∧ h.2.2.length ≤ 20 ∧ ∀ x ∈ h.2.2, SnB x
theorem HTx.rd {h : Hd} {t : List Nat} (x : HTx h t) (hb : HdB h) : RdH t h [] := by
  obtain ⟨a, b, P, c, S, h1, h2, h3, h4, h5, rfl⟩ := x
  obtain ⟨b1, ⟨b2, b3⟩, b4, b5⟩ := hb
  have e := h5.rep pSn_enc b5 []
  rw [List.append_nil] at e
  exact ⟨_, _, _, _, pNum_num h1 b1 _, pNum_num h2 b2 _, h3.rep (Ok := fun p => p ≤ 65536) (fun a f ha ho more => pNum_num ha ho more) b3 _, pNum_num h4 b4 _, e⟩
theorem RdH.unique {t u v : List Nat} {h k : Hd} (x : RdH t h u) (y : RdH t k v) : h = k ∧ u = v := by
  obtain ⟨s1, s2, s3, s4, h1, h2, h3, h4, h5⟩ := x
  obtain ⟨r1, r2, r3, r4, k1, k2, k3, k4, k5⟩ := y
  obtain ⟨n, P, S⟩ := h
  obtain ⟨m, Q, T⟩ := k
  simp only at h1 h2 h3 h4 h5 k1 k2 k3 k4 k5
  rw [h1] at k1
  simp only [Option.some.injEq, Prod.mk.injEq] at k1
  obtain ⟨rfl, rfl⟩ := k1
  rw [h2] at k2
  simp only [Option.some.injEq, Prod.mk.injEq] at k2
  obtain ⟨e, rfl⟩ := k2
  rw [← e] at k3
  obtain ⟨rfl, rfl⟩ := h3.unique k3
  rw [h4] at k4
  simp only [Option.some.injEq, Prod.mk.injEq] at k4
  obtain ⟨e, rfl⟩ := k4
  rw [← e] at k5
  obtain ⟨rfl, rfl⟩ := h5.unique k5
  exact ⟨rfl, rfl⟩
end Plain
end Go.Proofs.YtmdodcpmbhehdaaDoor
