/- Plain laws: what tokens make; the greedy tokens make the text and are as few as can be. -/
import Derived.Test.YtaipojclfpgaaaaLzPlain
namespace Go.Proofs.Ytaipojclfpgaaaa
namespace Plain
theorem getD_take {s : List Nat} {a i : Nat} (h : i < a) : (s.take a).getD i 0 = s.getD i 0 := by
  simp [List.getD_eq_getElem?_getD, h]
theorem take_succ_getD {s : List Nat} {a : Nat} (h : a < s.length) : s.take (a + 1) = s.take a ++ [s.getD a 0] := by
  rw [List.take_succ_eq_append_getElem h, List.getD_eq_getElem?_getD, List.getElem?_eq_getElem h]
  rfl
theorem snoc_of {α : Type} (l : List α) (h : l ≠ []) : ∃ m t, l = m ++ [t] := ⟨l.dropLast, l.getLast h, (List.dropLast_concat_getLast h).symm⟩
theorem getD_lt {s : List Nat} (hs : ∀ c ∈ s, c < 256) (i : Nat) : s.getD i 0 < 256 := by
  rw [List.getD_eq_getElem?_getD]
  cases hg : s[i]? with
  | none => decide
  | some v => exact hs v (List.mem_of_getElem? hg)
/-- n bytes copied from d back -/
def cp : Nat → Nat → List Nat → List Nat
  | 0, _, o => o
  | n + 1, d, o => cp n d (o ++ [o.getD (o.length - d) 0])
theorem cp_length : ∀ (n d : Nat) (o : List Nat), (cp n d o).length = o.length + n
  | 0, _, _ => rfl
  | n + 1, d, o => by rw [cp, cp_length n d, List.length_append, List.length_singleton]; omega
theorem cp_snoc : ∀ (n d : Nat) (o : List Nat), cp (n + 1) d o = cp n d o ++ [(cp n d o).getD ((cp n d o).length - d) 0]
  | 0, _, _ => rfl
  | n + 1, d, o => by
    show cp (n + 1) d (o ++ [o.getD (o.length - d) 0]) = _
    rw [cp_snoc n d]
    rfl
theorem cp_prefix : ∀ (n d : Nat) (o : List Nat), (cp n d o).take o.length = o
  | 0, _, o => by simp [cp]
  | n + 1, d, o => by
    have h := cp_prefix n d (o ++ [o.getD (o.length - d) 0])
    have h2 := congrArg (List.take o.length) h
    rw [List.take_take, List.length_append, List.length_singleton, Nat.min_eq_left (by omega), List.take_left] at h2
    exact h2
theorem cp_lt : ∀ (n d : Nat) (o : List Nat), (∀ c ∈ o, c < 256) → ∀ c ∈ cp n d o, c < 256
  | 0, _, _, h => h
  | n + 1, d, o, h => cp_lt n d _ (fun c hc => by
      rcases List.mem_append.1 hc with h1 | h1
      · exact h c h1
      · simp only [List.mem_singleton] at h1
        subst h1
        rw [List.getD_eq_getElem?_getD]
        cases hg : o[o.length - d]? with
        | none => decide
        | some v => exact h v (List.mem_of_getElem? hg))
/-- what a token adds -/
def put1 (t : Tok) (o : List Nat) : List Nat := if t.2.1 = 0 then o ++ [t.1] else cp t.2.1.toNat t.2.2.toNat o
theorem put1_length (t : Tok) (o : List Nat) (h : formed t = true) : ((put1 t o).length : Int) = o.length + max t.2.1 1 := by
  unfold put1 formed at *
  by_cases h0 : t.2.1 = 0
  · simp [h0]
    omega
  · simp only [h0, if_false, decide_eq_true_eq] at h ⊢
    rw [cp_length]
    omega
/-- one token of Expand -/
def xs (most : Nat) (r : Nat × List Nat) (t : Tok) : Nat × List Nat :=
  if r.1 ≠ 0 then r else if (r.2.length : Int) < t.2.2 then (4, []) else if (most : Int) < r.2.length + max t.2.1 1 then (2, []) else (0, put1 t r.2)
/-- what Expand answers of tokens that are right -/
def ex (most : Nat) (l : List Tok) : Nat × List Nat := l.foldl (xs most) (0, [])
theorem ex_nil (most : Nat) : ex most [] = (0, []) := rfl
theorem ex_snoc (most : Nat) (l : List Tok) (t : Tok) : ex most (l ++ [t]) = xs most (ex most l) t := by unfold ex; rw [List.foldl_append]; rfl
theorem xs_err {most : Nat} {r : Nat × List Nat} (t : Tok) (h : r.1 ≠ 0) : xs most r t = r := by unfold xs; rw [if_pos h]
theorem foldl_err (most : Nat) : ∀ (l : List Tok) (r : Nat × List Nat), r.1 ≠ 0 → l.foldl (xs most) r = r
  | [], _, _ => rfl
  | t :: l, r, h => by rw [List.foldl_cons, xs_err t h]; exact foldl_err most l r h
theorem ex_err {most : Nat} (l m : List Tok) (h : (ex most l).1 ≠ 0) : ex most (l ++ m) = ex most l := by
  unfold ex at *
  rw [List.foldl_append, foldl_err most m _ h]
theorem ex_bad (most : Nat) : ∀ (l : List Tok), (ex most l).1 = 0 ∨ ex most l = (4, []) ∨ ex most l = (2, []) := by
  intro l
  induction h : l.length generalizing l with
  | zero => obtain rfl := List.eq_nil_of_length_eq_zero h; exact .inl rfl
  | succ n ih =>
    obtain ⟨m, t, rfl⟩ : ∃ m t, l = m ++ [t] := snoc_of l (by intro h0; subst h0; cases h)
    rw [ex_snoc]
    rcases ih m (by simpa using h) with h1 | h1 | h1
    · unfold xs
      rw [if_neg (by simpa using h1)]
      split
      · exact .inr (.inl rfl)
      · split
        · exact .inr (.inr rfl)
        · exact .inl rfl
    · rw [h1]; exact .inr (.inl rfl)
    · rw [h1]; exact .inr (.inr rfl)
/-- what stands at a equals what stands d ahead, for m bytes -/
def mt (s : List Nat) (a d m : Nat) : Prop := ∀ j, j < m → s.getD (a + j) 0 = s.getD (a + j - d) 0
theorem mt_zero (s : List Nat) (a d : Nat) : mt s a d 0 := fun j hj => absurd hj (by omega)
theorem mt_succ {s : List Nat} {a d m : Nat} (h : mt s a d m) (h1 : s.getD (a + m) 0 = s.getD (a + m - d) 0) : mt s a d (m + 1) := fun j hj => by
  by_cases e : j = m
  · subst e; exact h1
  · exact h j (by omega)
theorem mt_less {s : List Nat} {a d m k : Nat} (h : mt s a d m) (hk : k ≤ m) : mt s a d k := fun j hj => h j (by omega)
theorem mt_next {s : List Nat} {a d m k : Nat} (h : mt s a d (k + m)) : mt s (a + k) d m := fun j hj => by
  have := h (k + j) (by omega)
  rwa [← Nat.add_assoc] at this
theorem cp_take {s : List Nat} : ∀ (n a d : Nat), mt s a d n → 1 ≤ d → d ≤ a → a + n ≤ s.length → cp n d (s.take a) = s.take (a + n)
  | 0, _, _, _, _, _, _ => rfl
  | n + 1, a, d, h, h1, h2, h3 => by
    have hl : (s.take a).length = a := by rw [List.length_take]; omega
    have h0 := h 0 (by omega)
    rw [Nat.add_zero] at h0
    rw [cp, hl, getD_take (by omega), ← h0, ← take_succ_getD (by omega), cp_take n (a + 1) d (mt_next (k := 1) (by rw [Nat.add_comm]; exact h)) h1 (by omega) (by omega)]
    congr 1
    omega
/-- the longest copy -/
def Best (s : List Nat) (a L d : Nat) : Prop :=
  L ≤ 255 ∧ a + L ≤ s.length ∧ (0 < L → 1 ≤ d ∧ d ≤ 1024 ∧ d ≤ a ∧ mt s a d L) ∧ (L = 0 → d = 0) ∧ ∀ e m, 1 ≤ e → e ≤ 1024 → e ≤ a → m ≤ 255 → a + m ≤ s.length → mt s a e m → m ≤ L
/-- tokens that Greedy has behind a bytes -/
inductive Gr (s : List Nat) : Nat → List Tok → Prop
  | nil : Gr s 0 []
  | step {a L d : Nat} {l : List Tok} : Gr s a l → a < s.length → Best s a L d → Gr s (a + max L 1) (l ++ [(if L = 0 then s.getD a 0 else 0, (L : Int), (d : Int))])
theorem Gr.le {s : List Nat} {a : Nat} {l : List Tok} (h : Gr s a l) : a ≤ s.length ∧ l.length ≤ a := by
  induction h with
  | nil => simp
  | step _ h1 h2 ih =>
    obtain ⟨_, h3, _⟩ := h2
    rw [List.length_append, List.length_singleton]
    omega
theorem tok_formed {s : List Nat} {a L d : Nat} (h : Best s a L d) : formed (if L = 0 then s.getD a 0 else 0, (L : Int), (d : Int)) = true := by
  obtain ⟨h1, h2, h3, h4, _⟩ := h
  unfold formed
  by_cases h0 : L = 0
  · simp [h0, h4 h0]
  · obtain ⟨a1, a2, a3, _⟩ := h3 (by omega)
    simp only [if_neg h0]
    rw [if_neg (by omega)]
    simp only [decide_eq_true_eq]
    exact ⟨trivial, by omega, by omega, by omega, by omega⟩
theorem Gr.formed {s : List Nat} {a : Nat} {l : List Tok} (h : Gr s a l) : ∀ t ∈ l, formed t = true := by
  induction h with
  | nil => simp
  | step _ _ h2 ih =>
    intro t ht
    rcases List.mem_append.1 ht with h | h
    · exact ih t h
    · simp only [List.mem_singleton] at h
      subst h
      exact tok_formed h2
theorem Gr.lit {s : List Nat} (hs : ∀ c ∈ s, c < 256) {a : Nat} {l : List Tok} (h : Gr s a l) : ∀ t ∈ l, t.1 < 256 := by
  induction h with
  | nil => simp
  | step _ _ h2 ih =>
    intro t ht
    rcases List.mem_append.1 ht with h | h
    · exact ih t h
    · simp only [List.mem_singleton] at h
      subst h
      show (if _ then _ else _) < 256
      split
      · exact getD_lt hs _
      · decide
theorem put1_best {s : List Nat} {a L d : Nat} (ha : a < s.length) (h : Best s a L d) : put1 (if L = 0 then s.getD a 0 else 0, (L : Int), (d : Int)) (s.take a) = s.take (a + max L 1) := by
  obtain ⟨h1, h2, h3, h4, _⟩ := h
  unfold put1
  by_cases h0 : L = 0
  · subst h0
    simp only [Int.ofNat_zero, if_true]
    exact (take_succ_getD ha).symm
  · obtain ⟨a1, a2, a3, a4⟩ := h3 (by omega)
    rw [if_neg (by simp; omega)]
    simp only [Int.toNat_natCast]
    rw [cp_take L a d a4 a1 a3 h2]
    congr 1
    omega
/-- the greedy tokens make the text -/
theorem Gr.ex {s : List Nat} {a : Nat} {l : List Tok} (h : Gr s a l) (most : Nat) (hm : a ≤ most) : ex most l = (0, s.take a) := by
  induction h generalizing most with
  | nil => simp [Plain.ex_nil]
  | @step a L d l h0 h1 h2 ih =>
    have hl : (s.take a).length = a := by rw [List.length_take]; omega
    have hd : d ≤ a := by
      obtain ⟨_, _, h3, h4, _⟩ := h2
      by_cases h0 : L = 0
      · rw [h4 h0]; omega
      · exact (h3 (by omega)).2.2.1
    rw [ex_snoc, ih most (by omega)]
    unfold xs
    rw [if_neg (by simp), if_neg (by rw [hl]; simp; omega), if_neg (by simp only [hl]; omega), put1_best h1 h2]
/-- with room for less the answer is that it is too large -/
theorem Gr.large {s : List Nat} {l : List Tok} (h : Gr s s.length l) (h0 : s.length ≠ 0) : Plain.ex (s.length - 1) l = (2, []) := by
  generalize hn : s.length = n at *
  cases h with
  | nil => omega
  | @step a L d l hg h1 h2 =>
    have hl : (s.take a).length = a := by rw [List.length_take]; omega
    have hd : d ≤ a := by
      obtain ⟨_, _, h3, h4, _⟩ := h2
      by_cases h0 : L = 0
      · rw [h4 h0]; omega
      · exact (h3 (by omega)).2.2.1
    rw [ex_snoc, hg.ex _ (by omega)]
    unfold xs
    rw [if_neg (by simp), if_neg (by rw [hl]; simp; omega), if_pos (by simp only [hl]; omega)]
/-- some tokens that make the first p bytes of a text -/
inductive Pr (s : List Nat) : Nat → List Tok → Prop
  | nil : Pr s 0 []
  | step {p : Nat} {l : List Tok} {t : Tok} {m d : Nat} : Pr s p l → t.2.1 = (m : Int) → t.2.2 = (d : Int) → m ≤ 255 → (0 < m → 1 ≤ d ∧ d ≤ 1024 ∧ d ≤ p ∧ mt s p d m) → p + max m 1 ≤ s.length → Pr s (p + max m 1) (l ++ [t])
theorem Pr.grow {s : List Nat} {p : Nat} {l : List Tok} (h : Pr s p l) (r : List Nat) : Pr (s ++ r) p l := by
  induction h with
  | nil => exact .nil
  | @step p l t m d _ h1 h2 h3 h4 h5 ih =>
    refine .step ih h1 h2 h3 (fun h0 => ?_) (by rw [List.length_append]; omega)
    obtain ⟨a1, a2, a3, a4⟩ := h4 h0
    refine ⟨a1, a2, a3, fun j hj => ?_⟩
    have := a4 j hj
    simp only [List.getD_eq_getElem?_getD] at this ⊢
    rw [List.getElem?_append_left (by omega), List.getElem?_append_left (by omega)]
    exact this
theorem cp_mt : ∀ (n d : Nat) (o : List Nat), 1 ≤ d → d ≤ o.length → mt (cp n d o) o.length d n
  | 0, d, o, _, _ => mt_zero _ _ _
  | n + 1, d, o, h1, h2 => by
    have ih := cp_mt n d o h1 h2
    have hl := cp_length n d o
    rw [cp_snoc]
    generalize cp n d o = c at *
    refine mt_succ (fun j hj => ?_) ?_
    · have := ih j hj
      simp only [List.getD_eq_getElem?_getD] at this ⊢
      rw [List.getElem?_append_left (by omega), List.getElem?_append_left (by omega)]
      exact this
    · rw [← hl]
      simp only [List.getD_eq_getElem?_getD]
      rw [List.getElem?_append_right (by omega), List.getElem?_append_left (by omega)]
      simp
theorem ex_pr (most : Nat) : ∀ (n : Nat) (l : List Tok) (o : List Nat), l.length = n → (∀ t ∈ l, formed t = true) → ex most l = (0, o) → Pr o o.length l
  | 0, l, o, hn, _, h => by
    obtain rfl := List.eq_nil_of_length_eq_zero hn
    rw [ex_nil] at h
    obtain rfl : [] = o := congrArg Prod.snd h
    exact .nil
  | n + 1, l, o, hn, hf, h => by
    obtain ⟨m, t, rfl⟩ : ∃ m t, l = m ++ [t] := snoc_of l (by intro h0; subst h0; cases hn)
    rw [ex_snoc] at h
    have ht := hf t (by simp)
    unfold xs at h
    by_cases h0 : (ex most m).1 ≠ 0
    · rw [if_pos h0] at h; rw [h] at h0; exact absurd rfl h0
    · rw [if_neg h0] at h
      have he : ex most m = (0, (ex most m).2) := by
        have : (ex most m).1 = 0 := by simpa using h0
        rw [← this]
      have ih := ex_pr most n m _ (by simpa using hn) (fun x hx => hf x (List.mem_append_left _ hx)) he
      generalize (ex most m).2 = o1 at *
      by_cases h1 : (o1.length : Int) < t.2.2
      · rw [if_pos h1] at h; cases h
      · rw [if_neg h1] at h
        by_cases h2 : (most : Int) < o1.length + max t.2.1 1
        · rw [if_pos h2] at h; cases h
        · rw [if_neg h2] at h
          obtain rfl : put1 t o1 = o := congrArg Prod.snd h
          have hlen := put1_length t o1 ht
          unfold formed at ht
          by_cases h3 : t.2.1 = 0
          · rw [if_pos h3, decide_eq_true_eq] at ht
            have hp : (put1 t o1).length = o1.length + max 0 1 := by rw [h3] at hlen; omega
            rw [hp]
            refine .step (d := 0) ?_ h3 ht (by omega) (fun h => absurd h (by omega)) (by omega)
            unfold put1
            rw [if_pos h3]
            exact ih.grow _
          · rw [if_neg h3, decide_eq_true_eq] at ht
            have hp : (put1 t o1).length = o1.length + max t.2.1.toNat 1 := by omega
            have e : put1 t o1 = cp t.2.1.toNat t.2.2.toNat o1 := by unfold put1; rw [if_neg h3]
            rw [hp]
            refine .step (d := t.2.2.toNat) ?_ (by omega) (by omega) (by omega) (fun _ => ⟨by omega, by omega, by omega, ?_⟩) (by omega)
            · rw [e, ← List.take_append_drop o1.length (cp t.2.1.toNat t.2.2.toNat o1), cp_prefix]
              exact ih.grow _
            · rw [e]
              exact cp_mt _ _ _ (by omega) (by omega)
theorem Pr.least {s : List Nat} {p : Nat} {l : List Tok} (h : Pr s p l) : ∀ {a : Nat} {m : List Tok}, Gr s a m → m.length = l.length → p ≤ a := by
  induction h with
  | nil => intros; omega
  | @step p l t m d _ h1 h2 h3 h4 h5 ih =>
    intro a g hg hl
    cases hg with
    | nil => simp at hl
    | @step a L d' g hg' ha hb =>
      have hi := ih hg' (by simpa using hl)
      by_cases hc : p + max m 1 ≤ a
      · omega
      · by_cases hm : m = 0
        · omega
        · obtain ⟨a1, a2, a3, a4⟩ := h4 (by omega)
          have := hb.2.2.2.2 d (p + m - a) a1 a2 (by omega) (by omega) (by omega) (by
            have e : p + (a - p) = a := by omega
            have := mt_next (s := s) (a := p) (d := d) (k := a - p) (m := p + m - a) (mt_less a4 (by omega))
            rwa [e] at this)
          omega
theorem Gr.at_ {s : List Nat} {b : Nat} {m : List Tok} (h : Gr s b m) : ∀ n, n < m.length → ∃ a m', Gr s a m' ∧ m'.length = n ∧ a < s.length := by
  induction h with
  | nil => intro n hn; simp at hn
  | @step a L d l hg h1 h2 ih =>
    intro n hn
    rw [List.length_append, List.length_singleton] at hn
    by_cases e : n = l.length
    · exact ⟨a, l, hg, e.symm, h1⟩
    · exact ih n (by omega)
/-- no tokens that make a text are fewer than the greedy ones -/
theorem greedy_least {most : Nat} {l m : List Tok} {t : List Nat} (hf : ∀ x ∈ l, formed x = true) (h : ex most l = (0, t)) (hg : Gr t t.length m) : m.length ≤ l.length := by
  rcases Nat.lt_or_ge l.length m.length with hlt | hge
  · obtain ⟨a, m', hm, hl, ha⟩ := hg.at_ _ hlt
    have := (ex_pr most l.length l t rfl hf h).least hm hl
    omega
  · exact hge
end Plain
end Go.Proofs.Ytaipojclfpgaaaa
