/- Plain laws of packets: what is packed, what is read of it, what of a changed one. -/
import Derived.Test.YtinjnclpiiohcaaDoorNumPlain
namespace Go.Proofs.YtinjnclpiiohcaaDoor
namespace Plain
/-- a packet: kind, number, text -/
abbrev Pk := Int × Int × List Nat
def PkOk (p : Pk) : Prop := (p.1 = 1 ∨ p.1 = 2) ∧ 0 ≤ p.2.1 ∧ p.2.1 ≤ 2000 ∧ (p.1 = 2 → p.2.2 = []) ∧ p.2.2.length ≤ 1024
/-- its bytes ahead of the digest -/
def PkB (p : Pk) (b : List Nat) : Prop := ∃ a, Num p.2.1.toNat a ∧ b = p.1.toNat :: (a ++ putT p.2.2)
theorem PkB.unique {p : Pk} {b c : List Nat} (h : PkB p b) (g : PkB p c) : b = c := by
  obtain ⟨x, hx, rfl⟩ := h
  obtain ⟨y, hy, rfl⟩ := g
  rw [hx.unique hy]
/-- what is decoded -/
def Dec (b : List Nat) (p : Pk) : Prop :=
  (∃ k c, b ≠ [] ∧ (getN (b.drop 1)).2.2 = 0 ∧ (getN (b.drop 1)).1 ≤ 2000 ∧ GTEnd (b.drop (1 + (getN (b.drop 1)).2.1)) p.2.2 k c ∧ p.1 = ((b.getD 0 0 : Nat) : Int) ∧ p.2.1 = (((getN (b.drop 1)).1 : Nat) : Int)) ∨
  ((b = [] ∨ (getN (b.drop 1)).2.2 ≠ 0 ∨ 2000 < (getN (b.drop 1)).1) ∧ p = (0, 0, []))
theorem PkB.dec {p q : Pk} {b : List Nat} (hp : PkOk p) (h : PkB p b) (g : Dec b q) : q = p := by
  obtain ⟨k, n, t⟩ := p
  obtain ⟨h1, h2, h3, h4, h5⟩ := hp
  obtain ⟨a, ha, rfl⟩ := h
  simp only at h1 h2 h3 h4 h5 ha
  have e1 : (k.toNat :: (a ++ putT t)).drop 1 = a ++ putT t := rfl
  have e2 : getN (a ++ putT t) = (n.toNat, a.length, 0) := getN_num ha _
  rcases g with ⟨x, c, g1, g2, g3, g4, g5, g6⟩ | ⟨g1, _⟩
  · rw [e1, e2] at g2 g3 g4 g6
    simp only at g2 g3 g4 g6
    have e3 : (k.toNat :: (a ++ putT t)).drop (1 + a.length) = putT t := by
      rw [Nat.add_comm, List.drop_succ_cons, List.drop_left]
    rw [e3] at g4
    have g4' : GTEnd (putT t ++ []) q.2.2 x c := by rw [List.append_nil]; exact g4
    obtain ⟨_, g7, _⟩ := GTEnd.back h5 g4'
    obtain ⟨q1, q2, q3⟩ := q
    simp only at g5 g6 g7
    rw [List.getD_cons_zero] at g5
    obtain rfl : q1 = k := by omega
    obtain rfl : q2 = n := by omega
    rw [g7]
  · exfalso
    rw [e1, e2] at g1
    simp only at g1
    rcases g1 with g1 | g1 | g1
    · cases g1
    · exact g1 rfl
    · omega
variable (idf : List Nat → List Nat)
/-- its bytes -/
def Packs (p : Pk) (s : List Nat) : Prop := PkOk p ∧ ∃ b, PkB p b ∧ s = b ++ idf b
variable {idf}
theorem Packs.unique {p : Pk} {s t : List Nat} (h : Packs idf p s) (g : Packs idf p t) : s = t := by
  obtain ⟨_, b, hb, rfl⟩ := h
  obtain ⟨_, c, hc, rfl⟩ := g
  rw [hb.unique hc]
theorem dec_some (b : List Nat) : (∃ p, PkOk p ∧ PkB p b) → ∀ p q, PkOk p → PkB p b → PkOk q → PkB q b → p = q := by
  intro _ p q hp hb hq hc
  obtain ⟨k, n, t⟩ := p
  obtain ⟨k', n', t'⟩ := q
  obtain ⟨h1, h2, h3, h4, h5⟩ := hp
  obtain ⟨g1, g2, g3, g4, g5⟩ := hq
  obtain ⟨a, ha, rfl⟩ := hb
  obtain ⟨a', ha', e⟩ := hc
  simp only at h1 h2 h3 h4 h5 ha g1 g2 g3 g4 g5 ha' e
  injection e with e1 e2
  have f1 : getN (a ++ putT t) = (n.toNat, a.length, 0) := getN_num ha _
  have f2 : getN (a' ++ putT t') = (n'.toNat, a'.length, 0) := getN_num ha' _
  rw [e2, f2] at f1
  injection f1 with f3 f4
  have f5 : n = n' := by omega
  subst f5
  have f6 := ha.unique ha'
  subst f6
  have f7 := List.append_cancel_left e2
  have f8 := (putT_inj t t' [] (by rw [List.append_nil]; exact f7)).1
  subst f8
  have : k = k' := by omega
  subst this
  rfl
theorem Packs.split (hid : ∀ l, (idf l).length = 8) {p : Pk} {s : List Nat} (h : Packs idf p s) : 8 ≤ s.length ∧ PkB p (s.take (s.length - 8)) ∧ idf (s.take (s.length - 8)) = s.drop (s.length - 8) := by
  obtain ⟨_, b, hb, rfl⟩ := h
  have e : (b ++ idf b).length - 8 = b.length := by rw [List.length_append, hid]; omega
  rw [e, List.take_left, List.drop_left]
  exact ⟨by rw [List.length_append, hid]; omega, hb, rfl⟩
theorem Packs.inj (hid : ∀ l, (idf l).length = 8) {p q : Pk} {s : List Nat} (h : Packs idf p s) (g : Packs idf q s) : p = q :=
  dec_some _ ⟨p, h.1, (h.split hid).2.1⟩ p q h.1 (h.split hid).2.1 g.1 (g.split hid).2.1
theorem set_ne {l : List Nat} {j v : Nat} (hj : j < l.length) (h : l.getD j 0 ≠ v) : l.set j v ≠ l := fun e => h (by
  have : (l.set j v).getD j 0 = v := by simp [List.getD_eq_getElem?_getD, hj]
  rw [e] at this
  exact this)
/-- a changed byte is seen at the digest -/
theorem sum_changed (hid : ∀ l, (idf l).length = 8) (hap : ∀ (l : List Nat) (j v : Nat), (∀ c ∈ l, c < 256) → j < l.length → v < 256 → l.getD j 0 ≠ v → l.length ≤ 4200 → idf (l.set j v) ≠ idf l)
    {b : List Nat} (hb : ∀ c ∈ b, c < 256) (h4 : b.length ≤ 4200) {j v : Nat} (hj : j < (b ++ idf b).length) (hv : v < 256) (hne : (b ++ idf b).getD j 0 ≠ v) :
    idf (((b ++ idf b).set j v).take ((b ++ idf b).length - 8)) ≠ ((b ++ idf b).set j v).drop ((b ++ idf b).length - 8) := by
  have e : (b ++ idf b).length - 8 = b.length := by rw [List.length_append, hid]; omega
  rw [e]
  by_cases h : j < b.length
  · rw [List.set_append_left _ _ h]
    have h1 : (b.set j v ++ idf b).take b.length = b.set j v := by rw [← List.length_set (as := b) (i := j) (a := v), List.take_left]
    have h2 : (b.set j v ++ idf b).drop b.length = idf b := by
      have := List.drop_left (l₁ := b.set j v) (l₂ := idf b)
      rwa [List.length_set] at this
    rw [h1, h2]
    refine hap b j v hb h hv ?_ h4
    rwa [List.getD_eq_getElem?_getD, List.getElem?_append_left h, ← List.getD_eq_getElem?_getD] at hne
  · rw [List.set_append_right _ _ (by omega), List.take_left, List.drop_left]
    rw [List.length_append] at hj
    intro e2
    refine set_ne (l := idf b) (j := j - b.length) (v := v) (by omega) ?_ e2.symm
    rwa [List.getD_eq_getElem?_getD, List.getElem?_append_right (by omega), ← List.getD_eq_getElem?_getD] at hne
theorem PkB.length {p : Pk} {b : List Nat} (h : PkB p b) (hp : PkOk p) : b.length ≤ 2100 := by
  obtain ⟨a, ha, rfl⟩ := h
  have h1 := ha.length.2
  have h2 : ∀ l : List Nat, (esc l).length ≤ 2 * l.length := by
    intro l
    induction l with
    | nil => simp [esc]
    | cons a l ih => cases a <;> simp only [esc, List.length_cons] <;> omega
  have h3 := h2 p.2.2
  have h5 := hp.2.2.2.2
  simp only [List.length_cons, List.length_append, putT, List.length_nil]
  omega
theorem PkB.lt {p : Pk} {b : List Nat} (h : PkB p b) (hp : PkOk p) (ht : ∀ c ∈ p.2.2, c < 256) : ∀ c ∈ b, c < 256 := by
  obtain ⟨a, ha, rfl⟩ := h
  intro c hc
  rcases List.mem_cons.1 hc with rfl | hc
  · have := hp.1; omega
  · rcases List.mem_append.1 hc with hc | hc
    · exact ha.lt c hc
    · exact putT_lt ht c hc
end Plain
end Go.Proofs.YtinjnclpiiohcaaDoor
