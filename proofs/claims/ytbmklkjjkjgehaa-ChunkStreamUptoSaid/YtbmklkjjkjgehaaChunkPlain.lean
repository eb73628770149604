/- Plain laws of pieces: where a piece ends, the pieces of a text, how they go on when more comes. -/
import Derived.WalkKit
namespace Go.Proofs.Ytbmklkjjkjgehaa
namespace Plain
/-- a rule: does a piece end behind the first k letters of a text? It looks at these letters alone. -/
structure Rule where
  mn : Nat
  mx : Nat
  cut : List Nat → Bool
def Rule.ok (R : Rule) : Prop := 1 ≤ R.mn ∧ R.mn ≤ R.mx
def Rule.hit (R : Rule) (l : List Nat) (k : Nat) : Prop := k = R.mx ∨ (R.mn ≤ k ∧ R.cut (l.take k) = true)
/-- the first piece of l ends behind k letters (0: nowhere) -/
def Rule.End (R : Rule) (l : List Nat) (k : Nat) : Prop :=
  (k = 0 ∧ ∀ j, 1 ≤ j → j ≤ l.length → ¬ R.hit l j) ∨ (1 ≤ k ∧ k ≤ l.length ∧ R.hit l k ∧ ∀ j, 1 ≤ j → j < k → ¬ R.hit l j)
inductive Rule.Pcs (R : Rule) : List Nat → List (List Nat) → List Nat → Prop
  | stop {l : List Nat} : R.End l 0 → R.Pcs l [] l
  | go {l : List Nat} {k : Nat} {ps : List (List Nat)} {r : List Nat} : 1 ≤ k → R.End l k → R.Pcs (l.drop k) ps r → R.Pcs l (l.take k :: ps) r
theorem Rule.End.unique {R : Rule} {l : List Nat} {k m : Nat} (h : R.End l k) (g : R.End l m) : k = m := by
  rcases h with ⟨rfl, h⟩ | ⟨h1, h2, h3, h4⟩ <;> rcases g with ⟨rfl, g⟩ | ⟨g1, g2, g3, g4⟩
  · rfl
  · exact absurd g3 (h _ g1 g2)
  · exact absurd h3 (g _ h1 h2)
  · rcases Nat.lt_trichotomy k m with e | e | e
    · exact absurd h3 (g4 _ h1 e)
    · exact e
    · exact absurd g3 (h4 _ g1 e)
theorem Rule.Pcs.unique {R : Rule} {l : List Nat} {ps : List (List Nat)} {r : List Nat} (h : R.Pcs l ps r) : ∀ {qs t}, R.Pcs l qs t → ps = qs ∧ r = t := by
  induction h with
  | stop h0 =>
    intro qs t g
    cases g with
    | stop _ => exact ⟨rfl, rfl⟩
    | go g1 g2 _ => have := h0.unique g2; omega
  | go h1 h2 _ ih =>
    intro qs t g
    cases g with
    | stop g0 => have := g0.unique h2; omega
    | go g1 g2 g3 =>
      obtain rfl := h2.unique g2
      obtain ⟨rfl, rfl⟩ := ih g3
      exact ⟨rfl, rfl⟩
theorem Rule.hit_append {R : Rule} {l : List Nat} (t : List Nat) {k : Nat} (hk : k ≤ l.length) : R.hit (l ++ t) k ↔ R.hit l k := by
  unfold Rule.hit
  rw [List.take_append_of_le_length hk]
theorem Rule.End.append {R : Rule} {l : List Nat} {k : Nat} (h : R.End l k) (hk : 1 ≤ k) (t : List Nat) : R.End (l ++ t) k := by
  rcases h with ⟨rfl, _⟩ | ⟨h1, h2, h3, h4⟩
  · omega
  · exact .inr ⟨h1, by rw [List.length_append]; omega, (R.hit_append t h2).2 h3, fun j hj hlt hh => h4 j hj hlt ((R.hit_append t (by omega)).1 hh)⟩
theorem Rule.End.le {R : Rule} {l : List Nat} {k : Nat} (h : R.End l k) : k ≤ l.length := by
  rcases h with ⟨rfl, _⟩ | ⟨_, h2, _⟩
  · omega
  · exact h2
/-- what comes later goes on from the rest -/
theorem Rule.Pcs.append {R : Rule} {x : List Nat} {ps : List (List Nat)} {r : List Nat} (h : R.Pcs x ps r) {t : List Nat} {qs : List (List Nat)} {r' : List Nat} : R.Pcs (r ++ t) qs r' → R.Pcs (x ++ t) (ps ++ qs) r' := by
  induction h with
  | stop _ => exact id
  | @go l k ps r h1 h2 _ ih =>
    intro g
    have := Rule.Pcs.go (R := R) (l := l ++ t) h1 (h2.append h1 t) (by rw [List.drop_append_of_le_length h2.le]; exact ih g)
    rw [List.take_append_of_le_length h2.le] at this
    exact this
theorem Rule.Pcs.join {R : Rule} {l : List Nat} {ps : List (List Nat)} {r : List Nat} (h : R.Pcs l ps r) : ps.flatten ++ r = l := by
  induction h with
  | stop _ => simp
  | go h1 h2 _ ih => rw [List.flatten_cons, List.append_assoc, ih, List.take_append_drop]
theorem Rule.Pcs.rest {R : Rule} {l : List Nat} {ps : List (List Nat)} {r : List Nat} (h : R.Pcs l ps r) : R.End r 0 := by
  induction h with
  | stop h0 => exact h0
  | go _ _ _ ih => exact ih
theorem Rule.Pcs.nil {R : Rule} : R.Pcs [] [] [] := .stop (.inl ⟨rfl, fun j h1 h2 => by simp at h2; omega⟩)
theorem Rule.end_bounds {R : Rule} (ok : R.ok) {l : List Nat} {k : Nat} (h : R.End l k) (hk : 1 ≤ k) : R.mn ≤ k ∧ k ≤ R.mx := by
  obtain ⟨o1, o2⟩ := ok
  rcases h with ⟨rfl, _⟩ | ⟨h1, h2, h3, h4⟩
  · omega
  · refine ⟨by rcases h3 with h | ⟨h, _⟩ <;> omega, ?_⟩
    rcases Nat.lt_or_ge R.mx k with e | e
    · exact absurd (.inl rfl) (h4 R.mx (by omega) e)
    · exact e
theorem Rule.rest_bound {R : Rule} (ok : R.ok) {r : List Nat} (h : R.End r 0) : r.length < R.mx := by
  obtain ⟨o1, o2⟩ := ok
  rcases h with ⟨_, h⟩ | ⟨h1, _⟩
  · rcases Nat.lt_or_ge r.length R.mx with e | e
    · exact e
    · exact absurd (.inl rfl) (h R.mx (by omega) e)
  · omega
theorem Rule.Pcs.bounds {R : Rule} (ok : R.ok) {l : List Nat} {ps : List (List Nat)} {r : List Nat} (h : R.Pcs l ps r) : ∀ p ∈ ps, R.mn ≤ p.length ∧ p.length ≤ R.mx := by
  induction h with
  | stop _ => intro p hp; cases hp
  | go h1 h2 _ ih =>
    intro p hp
    rcases List.mem_cons.1 hp with rfl | hp
    · rw [List.length_take, Nat.min_eq_left h2.le]; exact R.end_bounds ok h2 h1
    · exact ih p hp
theorem Rule.Pcs.count {R : Rule} {l : List Nat} {ps : List (List Nat)} {r : List Nat} (h : R.Pcs l ps r) : ps.length + r.length ≤ l.length := by
  induction h with
  | stop _ => simp
  | go h1 h2 _ ih =>
    rw [List.length_drop] at ih
    have := h2.le
    rw [List.length_cons]
    omega
/-- all pieces: the rest is the last one -/
def cutOf (ps : List (List Nat)) (r : List Nat) : List (List Nat) := if r = [] then ps else ps ++ [r]
/-- the pieces of a text -/
def Rule.Cuts (R : Rule) (l : List Nat) (cs : List (List Nat)) : Prop := ∃ ps r, R.Pcs l ps r ∧ cs = cutOf ps r
theorem Rule.Cuts.unique {R : Rule} {l : List Nat} {cs ds : List (List Nat)} (h : R.Cuts l cs) (g : R.Cuts l ds) : cs = ds := by
  obtain ⟨ps, r, h, rfl⟩ := h
  obtain ⟨qs, t, g, rfl⟩ := g
  obtain ⟨rfl, rfl⟩ := h.unique g
  rfl
theorem Rule.Cuts.join {R : Rule} {l : List Nat} {cs : List (List Nat)} (h : R.Cuts l cs) : cs.flatten = l := by
  obtain ⟨ps, r, h, rfl⟩ := h
  have := h.join
  unfold cutOf
  split
  · rename_i e; subst e; simpa using this
  · simpa using this
theorem Rule.Cuts.nil {R : Rule} : R.Cuts [] [] := ⟨[], [], .nil, rfl⟩
/-- behind the first piece the pieces are those of what is left -/
theorem Rule.Cuts.tail {R : Rule} {l p : List Nat} {cs : List (List Nat)} (h : R.Cuts l (p :: cs)) : R.Cuts cs.flatten cs := by
  obtain ⟨ps, r, h, e⟩ := h
  cases h with
  | stop h0 =>
    unfold cutOf at e
    split at e
    · cases e
    · simp only [List.nil_append, List.cons.injEq] at e
      obtain ⟨_, rfl⟩ := e
      exact Rule.Cuts.nil
  | @go _ k qs _ h1 h2 h3 =>
    have e2 : cs = cutOf qs r := by
      unfold cutOf at e ⊢
      split at e
      · rename_i er; rw [if_pos er]; simp only [List.cons.injEq] at e; exact e.2
      · rename_i er; rw [if_neg er]; simp only [List.cons_append, List.cons.injEq] at e; exact e.2
    have : R.Cuts (l.drop k) cs := ⟨qs, r, h3, e2⟩
    rw [this.join]
    exact this
theorem Rule.Cuts.drop {R : Rule} : ∀ {cs : List (List Nat)} {l : List Nat} (_ : R.Cuts l cs) (i : Nat), R.Cuts (cs.drop i).flatten (cs.drop i)
  | cs, l, h, 0 => by rw [List.drop_zero, h.join]; exact h
  | [], l, h, i + 1 => by simp only [List.drop_nil]; exact Rule.Cuts.nil
  | p :: cs, l, h, i + 1 => by rw [List.drop_succ_cons]; exact Rule.Cuts.drop h.tail i
/-- the pieces' lengths -/
theorem Rule.Cuts.bounds {R : Rule} (ok : R.ok) {l : List Nat} {cs : List (List Nat)} (h : R.Cuts l cs) (i : Nat) (hi : i < cs.length) :
    1 ≤ cs[i].length ∧ cs[i].length ≤ R.mx ∧ (i + 1 < cs.length → R.mn ≤ cs[i].length) := by
  obtain ⟨ps, r, h, rfl⟩ := h
  have hb := h.bounds ok
  have hr := R.rest_bound ok h.rest
  obtain ⟨o1, o2⟩ := ok
  unfold cutOf at hi ⊢
  split at hi
  · rename_i er
    have := hb _ (List.getElem_mem hi)
    simp only [er, if_true]
    exact ⟨by omega, this.2, fun _ => this.1⟩
  · rename_i er
    simp only [er, if_false]
    rw [List.length_append, List.length_singleton] at hi
    rcases Nat.lt_or_ge i ps.length with e | e
    · have := hb _ (List.getElem_mem e)
      rw [List.getElem_append_left e]
      exact ⟨by omega, this.2, fun _ => this.1⟩
    · obtain rfl : i = ps.length := by omega
      rw [List.getElem_append_right (Nat.le_refl _)]
      simp only [Nat.sub_self, List.getElem_cons_zero, List.length_append, List.length_singleton]
      have : r.length ≠ 0 := fun e => er (List.eq_nil_of_length_eq_zero e)
      exact ⟨by omega, by omega, fun h => by omega⟩
/-- two texts that end alike, each cut at one place of that end: the same pieces from there on -/
theorem Rule.Cuts.meets {R : Rule} {a b e : List Nat} {cs ds : List (List Nat)} (h : R.Cuts (a ++ e) cs) (g : R.Cuts (b ++ e) ds) (i j : Nat)
    (hl : (cs.drop i).flatten.length = (ds.drop j).flatten.length) (he : (ds.drop j).flatten.length ≤ e.length) : cs.drop i = ds.drop j := by
  have h1 := h.drop i
  have g1 := g.drop j
  have key : ∀ (x : List Nat) (cs : List (List Nat)) (i : Nat), R.Cuts (x ++ e) cs → (cs.drop i).flatten.length ≤ e.length → (cs.drop i).flatten = e.drop (e.length - (cs.drop i).flatten.length) := by
    intro x cs i h hle
    have hj : (cs.take i).flatten ++ (cs.drop i).flatten = x ++ e := by rw [← List.flatten_append, List.take_append_drop]; exact h.join
    have hlen := congrArg List.length hj
    simp only [List.length_append] at hlen
    have h2 : ((cs.take i).flatten ++ (cs.drop i).flatten).drop (cs.take i).flatten.length = (cs.drop i).flatten := by simp
    rw [hj, List.drop_append, show (cs.take i).flatten.length - x.length = e.length - (cs.drop i).flatten.length by omega, List.drop_eq_nil_of_le (by omega), List.nil_append] at h2
    exact h2.symm
  have e1 := key a cs i h (by omega)
  have e2 := key b ds j g he
  have : (cs.drop i).flatten = (ds.drop j).flatten := by rw [e1, e2, hl]
  rw [this] at h1
  exact h1.unique g1
/-- pieces of one length -/
inductive Fxd (n : Nat) : List Nat → List (List Nat) → Prop
  | nil : Fxd n [] []
  | cons {l : List Nat} {ps : List (List Nat)} : l.length ≠ 0 → Fxd n (l.drop (min n l.length)) ps → Fxd n l (l.take (min n l.length) :: ps)
theorem Fxd.join {n : Nat} {l : List Nat} {ps : List (List Nat)} (h : Fxd n l ps) : ps.flatten = l := by
  induction h with
  | nil => rfl
  | cons _ _ ih => rw [List.flatten_cons, ih, List.take_append_drop]
theorem Fxd.bounds {n : Nat} (hn : 1 ≤ n) {l : List Nat} {ps : List (List Nat)} (h : Fxd n l ps) : ∀ (i : Nat) (hi : i < ps.length), 1 ≤ ps[i].length ∧ ps[i].length ≤ n ∧ (i + 1 < ps.length → n ≤ ps[i].length) := by
  induction h with
  | nil => intro i hi; simp at hi
  | @cons l ps h0 h1 ih =>
    intro i hi
    cases i with
    | zero =>
      simp only [List.getElem_cons_zero, List.length_take, List.length_cons]
      refine ⟨by omega, by omega, fun h => ?_⟩
      rcases Nat.lt_or_ge l.length n with e | e
      · exfalso
        cases h1' : ps with
        | nil => subst h1'; simp at h
        | cons p qs =>
          rw [h1', Nat.min_eq_right (by omega), List.drop_length] at h1
          cases h1 with
          | cons h2 _ => simp at h2
      · omega
    | succ i =>
      have := ih i (by simpa using hi)
      simp only [List.getElem_cons_succ, List.length_cons]
      exact ⟨this.1, this.2.1, fun h => this.2.2 (by omega)⟩
end Plain
end Go.Proofs.Ytbmklkjjkjgehaa
