/- Joined: LzPlain, LzGreedy, LzW, LzRead. -/
import Derived.WalkKit
import Derived.Test.YtbfhhnpoogmlnaaDoorRows
import Derived.Test.YtbfhhnpoogmlnaaDoorBase1
import Derived.Test.YtbfhhnpoogmlnaaDoorBase0
import Derived.WalkSpells
import Derived.WalkLawsBesides
import Derived.RegionTactic
namespace Go.Proofs.YtbfhhnpoogmlnaaDoor
namespace Plain
/-- a token: its letter, length and distance -/
abbrev Tok := Nat × Int × Int
def formed (t : Tok) : Bool := if t.2.1 = 0 then decide (t.2.2 = 0) else decide (t.1 = 0 ∧ 1 ≤ t.2.1 ∧ t.2.1 ≤ 255 ∧ 1 ≤ t.2.2 ∧ t.2.2 ≤ 1024)
/-- what Check answers -/
def lchk (l : List Tok) : Nat := if 4096 < l.length then 2 else if l.all formed then 0 else 4
theorem lchk_ok {l : List Tok} : lchk l = 0 ↔ l.length ≤ 4096 ∧ ∀ t ∈ l, formed t = true := by
  unfold lchk
  constructor
  · intro h
    split at h
    · cases h
    · split at h
      · rename_i h1 h2
        exact ⟨by omega, by simpa using h2⟩
      · cases h
  · rintro ⟨h1, h2⟩
    rw [if_neg (by omega), if_pos (by simpa using h2)]
/-- the bytes of a token -/
def pk1 (t : Tok) : List Nat := if t.2.1 = 0 then [0, t.1] else [(t.2.1 % 256).toNat, (t.2.2 % 256).toNat, (t.2.2 / 256 % 256).toNat]
def pk (l : List Tok) : List Nat := l.flatMap pk1
theorem pk_nil : pk [] = [] := rfl
theorem pk_cons (t : Tok) (l : List Tok) : pk (t :: l) = pk1 t ++ pk l := rfl
theorem pk_snoc (l : List Tok) (t : Tok) : pk (l ++ [t]) = pk l ++ pk1 t := by simp [pk]
theorem pk1_length (t : Tok) : 2 ≤ (pk1 t).length ∧ (pk1 t).length ≤ 3 := by unfold pk1; split <;> simp
theorem pk1_lt (t : Tok) (h : t.1 < 256) : ∀ c ∈ pk1 t, c < 256 := by
  intro c hc
  unfold pk1 at hc
  split at hc
  · simp at hc
    omega
  · simp at hc
    omega
theorem pk_lt (l : List Tok) (h : ∀ t ∈ l, t.1 < 256) : ∀ c ∈ pk l, c < 256 := by
  intro c hc
  obtain ⟨t, ht, hc⟩ := List.mem_flatMap.1 hc
  exact pk1_lt t (h t ht) c hc
theorem pk_length : ∀ l : List Tok, (pk l).length ≤ 3 * l.length
  | [] => by simp [pk]
  | t :: l => by rw [pk_cons, List.length_append, List.length_cons]; have := pk1_length t; have := pk_length l; omega
/-- how many bytes the first token takes -/
def tn (s : List Nat) : Nat := if s.getD 0 0 = 0 then 2 else 3
/-- the first token -/
def tk (s : List Nat) : Tok := if s.getD 0 0 = 0 then (s.getD 1 0, 0, 0) else (0, (s.getD 0 0 : Int), ((s.getD 1 0 + 256 * s.getD 2 0 : Nat) : Int))
theorem tn_pos (s : List Nat) : 2 ≤ tn s ∧ tn s ≤ 3 := by unfold tn; split <;> omega
/-- what Read answers behind k tokens: the error and the tokens -/
def rd (k : Nat) (s : List Nat) : Nat × List Tok :=
  if _h : s.length = 0 then (0, []) else
  if s.length < tn s then (3, []) else
  if formed (tk s) = false then (4, []) else
  if k = 4096 then (2, []) else
  if (rd (k + 1) (s.drop (tn s))).1 = 0 then (0, tk s :: (rd (k + 1) (s.drop (tn s))).2) else ((rd (k + 1) (s.drop (tn s))).1, [])
termination_by s.length
decreasing_by all_goals (have := tn_pos s; simp only [List.length_drop]; omega)
theorem rd_nil (k : Nat) (s : List Nat) (h : s.length = 0) : rd k s = (0, []) := by rw [rd, dif_pos h]
theorem rd_short (k : Nat) (s : List Nat) (h : s.length ≠ 0) (h1 : s.length < tn s) : rd k s = (3, []) := by rw [rd, dif_neg h, if_pos h1]
theorem rd_form (k : Nat) (s : List Nat) (h : s.length ≠ 0) (h1 : tn s ≤ s.length) (h2 : formed (tk s) = false) : rd k s = (4, []) := by rw [rd, dif_neg h, if_neg (by omega), if_pos h2]
theorem rd_large (k : Nat) (s : List Nat) (h : s.length ≠ 0) (h1 : tn s ≤ s.length) (h2 : formed (tk s) = true) (h3 : k = 4096) : rd k s = (2, []) := by
  rw [rd, dif_neg h, if_neg (by omega), if_neg (by simp [h2]), if_pos h3]
theorem rd_more (k : Nat) (s : List Nat) (h : s.length ≠ 0) (h1 : tn s ≤ s.length) (h2 : formed (tk s) = true) (h3 : k ≠ 4096) :
    rd k s = if (rd (k + 1) (s.drop (tn s))).1 = 0 then (0, tk s :: (rd (k + 1) (s.drop (tn s))).2) else ((rd (k + 1) (s.drop (tn s))).1, []) := by
  rw [rd, dif_neg h, if_neg (by omega), if_neg (by simp [h2]), if_neg h3]
/-- what comes of the whole, out of what came so far and what comes of the rest -/
def cont (acc : List Tok) (r : Nat × List Tok) : Nat × List Tok := if r.1 = 0 then (0, acc ++ r.2) else (r.1, [])
theorem cont_more (acc : List Tok) (k : Nat) (s : List Nat) (h : s.length ≠ 0) (h1 : tn s ≤ s.length) (h2 : formed (tk s) = true) (h3 : k ≠ 4096) :
    cont acc (rd k s) = cont (acc ++ [tk s]) (rd (k + 1) (s.drop (tn s))) := by
  rw [rd_more k s h h1 h2 h3]
  unfold cont
  by_cases h0 : (rd (k + 1) (s.drop (tn s))).1 = 0
  · simp [h0]
  · simp [h0]
theorem cont_nil (k : Nat) (s : List Nat) : cont [] (rd k s) = rd k s := by
  unfold cont
  by_cases h0 : (rd k s).1 = 0
  · simp only [h0, if_true, List.nil_append]
    rw [← h0]
  · simp only [h0, if_false]
    rw [rd] at h0 ⊢
    by_cases a : s.length = 0
    · simp [a] at h0
    · rw [dif_neg a] at h0 ⊢
      split
      · rfl
      · split
        · rfl
        · split
          · rfl
          · split
            · rename_i hh
              simp_all
            · rfl
theorem tn_pk1 (t : Tok) (h : formed t = true) (r : List Nat) : tn (pk1 t ++ r) = (pk1 t).length := by
  unfold tn pk1 formed at *
  by_cases h0 : t.2.1 = 0
  · simp [h0]
  · simp only [h0, if_false, decide_eq_true_eq] at h
    simp only [h0, if_false, List.cons_append, List.getD_cons_zero]
    rw [if_neg (by omega)]
    rfl
theorem tk_pk1 (t : Tok) (h : formed t = true) (r : List Nat) : tk (pk1 t ++ r) = t := by
  obtain ⟨a, b, c⟩ := t
  unfold tk pk1 formed at *
  simp only at h
  by_cases h0 : b = 0
  · simp only [h0, if_true, decide_eq_true_eq] at h
    subst h0
    simp [h]
  · simp only [h0, if_false, decide_eq_true_eq] at h
    simp only [h0, if_false, List.cons_append, List.getD_cons_zero, List.getD_cons_succ]
    rw [if_neg (by omega)]
    obtain ⟨h1, h2, h3, h4, h5⟩ := h
    simp only [Prod.mk.injEq]
    refine ⟨h1.symm, by omega, by omega⟩
/-- what is packed is read as it was -/
theorem rd_pk : ∀ (l : List Tok) (k : Nat), k + l.length ≤ 4096 → (∀ t ∈ l, formed t = true) → rd k (pk l) = (0, l)
  | [], k, _, _ => rd_nil k _ rfl
  | t :: l, k, hk, h => by
    have ht := h t List.mem_cons_self
    have h2 := pk1_length t
    rw [List.length_cons] at hk
    have ih := rd_pk l (k + 1) (by omega) (fun x hx => h x (List.mem_cons_of_mem _ hx))
    have hd : (pk (t :: l)).drop (tn (pk (t :: l))) = pk l := by rw [pk_cons, tn_pk1 t ht, List.drop_left]
    have hk2 : tk (pk (t :: l)) = t := by rw [pk_cons]; exact tk_pk1 t ht _
    have htn : tn (pk (t :: l)) = (pk1 t).length := by rw [pk_cons]; exact tn_pk1 t ht _
    have hlen : (pk (t :: l)).length = (pk1 t).length + (pk l).length := by rw [pk_cons, List.length_append]
    rw [rd_more k _ (by omega) (by omega) (by rw [hk2]; exact ht) (by omega), hd, ih, hk2]
    rfl
theorem pk1_tk (s : List Nat) (hs : ∀ c ∈ s, c < 256) (h : tn s ≤ s.length) : pk1 (tk s) = s.take (tn s) := by
  have hg : ∀ i, s.getD i 0 < 256 := fun i => by
    rw [List.getD_eq_getElem?_getD]
    cases hg : s[i]? with
    | none => decide
    | some v => exact hs v (List.mem_of_getElem? hg)
  have g0 := hg 0
  have g1 := hg 1
  have g2 := hg 2
  have : 2 ≤ s.length := by have := tn_pos s; omega
  match s, this with
  | [a, b], _ =>
    unfold tn at h ⊢
    unfold tk pk1
    simp only [List.getD_cons_zero, List.getD_cons_succ, List.length_cons, List.length_nil] at *
    by_cases h0 : a = 0
    · simp [h0]
    · rw [if_neg h0] at h; omega
  | a :: b :: c :: r, _ =>
    unfold tn tk pk1
    simp only [List.getD_cons_zero, List.getD_cons_succ] at *
    by_cases h0 : a = 0
    · simp [h0]
    · simp only [h0, if_false]
      rw [if_neg (by omega)]
      simp only [List.take_succ_cons, List.take_zero, List.cons.injEq, and_true]
      omega
/-- what is read is packed as it stood -/
theorem pk_rd : ∀ (n : Nat) (s : List Nat) (k : Nat), s.length ≤ n → k ≤ 4096 → (∀ c ∈ s, c < 256) → (rd k s).1 = 0 → pk (rd k s).2 = s ∧ k + (rd k s).2.length ≤ 4096 ∧ ∀ t ∈ (rd k s).2, formed t = true
  | 0, s, k, hn, hk, _, _ => by
    rw [rd_nil k s (by omega)]
    exact ⟨(List.eq_nil_of_length_eq_zero (by omega)).symm, by simpa using hk, by simp⟩
  | n + 1, s, k, hn, hk, hs, h => by
    by_cases h0 : s.length = 0
    · rw [rd_nil k s h0]
      exact ⟨(List.eq_nil_of_length_eq_zero h0).symm, by simpa using hk, by simp⟩
    · by_cases h1 : s.length < tn s
      · rw [rd_short k s h0 h1] at h; cases h
      · by_cases h2 : formed (tk s) = false
        · rw [rd_form k s h0 (by omega) h2] at h; cases h
        · have h2' : formed (tk s) = true := by simpa using h2
          by_cases h3 : k = 4096
          · rw [rd_large k s h0 (by omega) h2' h3] at h; cases h
          · have htn := tn_pos s
            rw [rd_more k s h0 (by omega) h2' h3] at h ⊢
            by_cases h4 : (rd (k + 1) (s.drop (tn s))).1 = 0
            · obtain ⟨a, b, c⟩ := pk_rd n (s.drop (tn s)) (k + 1) (by rw [List.length_drop]; omega) (by omega) (fun c hc => hs c (List.mem_of_mem_drop hc)) h4
              rw [if_pos h4]
              refine ⟨?_, ?_, ?_⟩
              · show pk (tk s :: (rd (k + 1) (s.drop (tn s))).2) = s
                rw [pk_cons, a, pk1_tk s hs (by omega), List.take_append_drop]
              · simp only [List.length_cons]; omega
              · intro t ht
                rcases List.mem_cons.1 ht with rfl | ht
                · exact h2'
                · exact c t ht
            · rw [if_neg h4] at h; exact absurd h h4
theorem rd_err (k : Nat) (s : List Nat) (h : (rd k s).1 ≠ 0) : (rd k s).2 = [] ∧ s.length ≠ 0 := by
  have hc := cont_nil k s
  unfold cont at hc
  rw [if_neg h] at hc
  refine ⟨by rw [← hc], fun h0 => h (by rw [rd_nil k s h0])⟩
theorem rd_le (k : Nat) (s : List Nat) : (rd k s).1 ≤ 4 := by
  induction hn : s.length using Nat.strongRecOn generalizing k s with
  | _ n ih =>
    by_cases h0 : s.length = 0
    · rw [rd_nil k s h0]; decide
    · by_cases h1 : s.length < tn s
      · rw [rd_short k s h0 h1]; decide
      · by_cases h2 : formed (tk s) = false
        · rw [rd_form k s h0 (by omega) h2]; decide
        · have h2' : formed (tk s) = true := by simpa using h2
          by_cases h3 : k = 4096
          · rw [rd_large k s h0 (by omega) h2' h3]; decide
          · have htn := tn_pos s
            rw [rd_more k s h0 (by omega) h2' h3]
            split
            · exact Nat.zero_le _
            · exact ih (s.drop (tn s)).length (by rw [List.length_drop]; omega) (k + 1) _ rfl
end Plain
end Go.Proofs.YtbfhhnpoogmlnaaDoor
namespace Go.Proofs.YtbfhhnpoogmlnaaDoor
namespace Plain
theorem getD_take {s : List Nat} {a i : Nat} (h : i < a) : (s.take a).getD i 0 = s.getD i 0 := by
  simp [List.getD_eq_getElem?_getD, h]
theorem take_succ_getD {s : List Nat} {a : Nat} (h : a < s.length) : s.take (a + 1) = s.take a ++ [s.getD a 0] := by
  rw [List.take_succ_eq_append_getElem h, List.getD_eq_getElem?_getD, List.getElem?_eq_getElem h]
  rfl
theorem snoc_of {α : Type} (l : List α) (h : l ≠ []) : ∃ m t, l = m ++ [t] := ⟨l.dropLast, l.getLast h, (List.dropLast_concat_getLast h).symm⟩
theorem getD_lt {s : List Nat} (hs : ∀ c ∈ s, c < 256) (i : Nat) : s.getD i 0 < 256 := by
  rw [List.getD_eq_getElem?_getD]
  cases hg : s[i]? with
  | none => decide
  | some v => exact hs v (List.mem_of_getElem? hg)
/-- n bytes copied from d back -/
def cp : Nat → Nat → List Nat → List Nat
  | 0, _, o => o
  | n + 1, d, o => cp n d (o ++ [o.getD (o.length - d) 0])
theorem cp_length : ∀ (n d : Nat) (o : List Nat), (cp n d o).length = o.length + n
  | 0, _, _ => rfl
  | n + 1, d, o => by rw [cp, cp_length n d, List.length_append, List.length_singleton]; omega
theorem cp_snoc : ∀ (n d : Nat) (o : List Nat), cp (n + 1) d o = cp n d o ++ [(cp n d o).getD ((cp n d o).length - d) 0]
  | 0, _, _ => rfl
  | n + 1, d, o => by
    show cp (n + 1) d (o ++ [o.getD (o.length - d) 0]) = _
    rw [cp_snoc n d]
    rfl
theorem cp_prefix : ∀ (n d : Nat) (o : List Nat), (cp n d o).take o.length = o
  | 0, _, o => by simp [cp]
  | n + 1, d, o => by
    have h := cp_prefix n d (o ++ [o.getD (o.length - d) 0])
    have h2 := congrArg (List.take o.length) h
    rw [List.take_take, List.length_append, List.length_singleton, Nat.min_eq_left (by omega), List.take_left] at h2
    exact h2
theorem cp_lt : ∀ (n d : Nat) (o : List Nat), (∀ c ∈ o, c < 256) → ∀ c ∈ cp n d o, c < 256
  | 0, _, _, h => h
  | n + 1, d, o, h => cp_lt n d _ (fun c hc => by
      rcases List.mem_append.1 hc with h1 | h1
      · exact h c h1
      · simp only [List.mem_singleton] at h1
        subst h1
        rw [List.getD_eq_getElem?_getD]
        cases hg : o[o.length - d]? with
        | none => decide
        | some v => exact h v (List.mem_of_getElem? hg))
/-- what a token adds -/
def put1 (t : Tok) (o : List Nat) : List Nat := if t.2.1 = 0 then o ++ [t.1] else cp t.2.1.toNat t.2.2.toNat o
theorem put1_length (t : Tok) (o : List Nat) (h : formed t = true) : ((put1 t o).length : Int) = o.length + max t.2.1 1 := by
  unfold put1 formed at *
  by_cases h0 : t.2.1 = 0
  · simp [h0]
    omega
  · simp only [h0, if_false, decide_eq_true_eq] at h ⊢
    rw [cp_length]
    omega
/-- one token of Expand -/
def xs (most : Nat) (r : Nat × List Nat) (t : Tok) : Nat × List Nat :=
  if r.1 ≠ 0 then r else if (r.2.length : Int) < t.2.2 then (4, []) else if (most : Int) < r.2.length + max t.2.1 1 then (2, []) else (0, put1 t r.2)
/-- what Expand answers of tokens that are right -/
def ex (most : Nat) (l : List Tok) : Nat × List Nat := l.foldl (xs most) (0, [])
theorem ex_nil (most : Nat) : ex most [] = (0, []) := rfl
theorem ex_snoc (most : Nat) (l : List Tok) (t : Tok) : ex most (l ++ [t]) = xs most (ex most l) t := by unfold ex; rw [List.foldl_append]; rfl
theorem xs_err {most : Nat} {r : Nat × List Nat} (t : Tok) (h : r.1 ≠ 0) : xs most r t = r := by unfold xs; rw [if_pos h]
theorem foldl_err (most : Nat) : ∀ (l : List Tok) (r : Nat × List Nat), r.1 ≠ 0 → l.foldl (xs most) r = r
  | [], _, _ => rfl
  | t :: l, r, h => by rw [List.foldl_cons, xs_err t h]; exact foldl_err most l r h
theorem ex_err {most : Nat} (l m : List Tok) (h : (ex most l).1 ≠ 0) : ex most (l ++ m) = ex most l := by
  unfold ex at *
  rw [List.foldl_append, foldl_err most m _ h]
theorem ex_bad (most : Nat) : ∀ (l : List Tok), (ex most l).1 = 0 ∨ ex most l = (4, []) ∨ ex most l = (2, []) := by
  intro l
  induction h : l.length generalizing l with
  | zero => obtain rfl := List.eq_nil_of_length_eq_zero h; exact .inl rfl
  | succ n ih =>
    obtain ⟨m, t, rfl⟩ : ∃ m t, l = m ++ [t] := snoc_of l (by intro h0; subst h0; cases h)
    rw [ex_snoc]
    rcases ih m (by simpa using h) with h1 | h1 | h1
    · unfold xs
      rw [if_neg (by simpa using h1)]
      split
      · exact .inr (.inl rfl)
      · split
        · exact .inr (.inr rfl)
        · exact .inl rfl
    · rw [h1]; exact .inr (.inl rfl)
    · rw [h1]; exact .inr (.inr rfl)
/-- what stands at a equals what stands d ahead, for m bytes -/
def mt (s : List Nat) (a d m : Nat) : Prop := ∀ j, j < m → s.getD (a + j) 0 = s.getD (a + j - d) 0
theorem mt_zero (s : List Nat) (a d : Nat) : mt s a d 0 := fun j hj => absurd hj (by omega)
theorem mt_succ {s : List Nat} {a d m : Nat} (h : mt s a d m) (h1 : s.getD (a + m) 0 = s.getD (a + m - d) 0) : mt s a d (m + 1) := fun j hj => by
  by_cases e : j = m
  · subst e; exact h1
  · exact h j (by omega)
theorem mt_less {s : List Nat} {a d m k : Nat} (h : mt s a d m) (hk : k ≤ m) : mt s a d k := fun j hj => h j (by omega)
theorem mt_next {s : List Nat} {a d m k : Nat} (h : mt s a d (k + m)) : mt s (a + k) d m := fun j hj => by
  have := h (k + j) (by omega)
  rwa [← Nat.add_assoc] at this
theorem cp_take {s : List Nat} : ∀ (n a d : Nat), mt s a d n → 1 ≤ d → d ≤ a → a + n ≤ s.length → cp n d (s.take a) = s.take (a + n)
  | 0, _, _, _, _, _, _ => rfl
  | n + 1, a, d, h, h1, h2, h3 => by
    have hl : (s.take a).length = a := by rw [List.length_take]; omega
    have h0 := h 0 (by omega)
    rw [Nat.add_zero] at h0
    rw [cp, hl, getD_take (by omega), ← h0, ← take_succ_getD (by omega), cp_take n (a + 1) d (mt_next (k := 1) (by rw [Nat.add_comm]; exact h)) h1 (by omega) (by omega)]
    congr 1
    omega
/-- the longest copy -/
def Best (s : List Nat) (a L d : Nat) : Prop :=
  L ≤ 255 ∧ a + L ≤ s.length ∧ (0 < L → 1 ≤ d ∧ d ≤ 1024 ∧ d ≤ a ∧ mt s a d L) ∧ (L = 0 → d = 0) ∧ ∀ e m, 1 ≤ e → e ≤ 1024 → e ≤ a → m ≤ 255 → a + m ≤ s.length → mt s a e m → m ≤ L
/-- tokens that Greedy has behind a bytes -/
inductive Gr (s : List Nat) : Nat → List Tok → Prop
  | nil : Gr s 0 []
  | step {a L d : Nat} {l : List Tok} : Gr s a l → a < s.length → Best s a L d → Gr s (a + max L 1) (l ++ [(if L = 0 then s.getD a 0 else 0, (L : Int), (d : Int))])
theorem Gr.le {s : List Nat} {a : Nat} {l : List Tok} (h : Gr s a l) : a ≤ s.length ∧ l.length ≤ a := by
  induction h with
  | nil => simp
  | step _ h1 h2 ih =>
    obtain ⟨_, h3, _⟩ := h2
    rw [List.length_append, List.length_singleton]
    omega
theorem tok_formed {s : List Nat} {a L d : Nat} (h : Best s a L d) : formed (if L = 0 then s.getD a 0 else 0, (L : Int), (d : Int)) = true := by
  obtain ⟨h1, h2, h3, h4, _⟩ := h
  unfold formed
  by_cases h0 : L = 0
  · simp [h0, h4 h0]
  · obtain ⟨a1, a2, a3, _⟩ := h3 (by omega)
    simp only [if_neg h0]
    rw [if_neg (by omega)]
    simp only [decide_eq_true_eq]
    exact ⟨trivial, by omega, by omega, by omega, by omega⟩
theorem Gr.formed {s : List Nat} {a : Nat} {l : List Tok} (h : Gr s a l) : ∀ t ∈ l, formed t = true := by
  induction h with
  | nil => simp
  | step _ _ h2 ih =>
    intro t ht
    rcases List.mem_append.1 ht with h | h
    · exact ih t h
    · simp only [List.mem_singleton] at h
      subst h
      exact tok_formed h2
theorem Gr.lit {s : List Nat} (hs : ∀ c ∈ s, c < 256) {a : Nat} {l : List Tok} (h : Gr s a l) : ∀ t ∈ l, t.1 < 256 := by
  induction h with
  | nil => simp
  | step _ _ h2 ih =>
    intro t ht
    rcases List.mem_append.1 ht with h | h
    · exact ih t h
    · simp only [List.mem_singleton] at h
      subst h
      show (if _ then _ else _) < 256
      split
      · exact getD_lt hs _
      · decide
theorem put1_best {s : List Nat} {a L d : Nat} (ha : a < s.length) (h : Best s a L d) : put1 (if L = 0 then s.getD a 0 else 0, (L : Int), (d : Int)) (s.take a) = s.take (a + max L 1) := by
  obtain ⟨h1, h2, h3, h4, _⟩ := h
  unfold put1
  by_cases h0 : L = 0
  · subst h0
    simp only [Int.ofNat_zero, if_true]
    exact (take_succ_getD ha).symm
  · obtain ⟨a1, a2, a3, a4⟩ := h3 (by omega)
    rw [if_neg (by simp; omega)]
    simp only [Int.toNat_natCast]
    rw [cp_take L a d a4 a1 a3 h2]
    congr 1
    omega
/-- the greedy tokens make the text -/
theorem Gr.ex {s : List Nat} {a : Nat} {l : List Tok} (h : Gr s a l) (most : Nat) (hm : a ≤ most) : ex most l = (0, s.take a) := by
  induction h generalizing most with
  | nil => simp [Plain.ex_nil]
  | @step a L d l h0 h1 h2 ih =>
    have hl : (s.take a).length = a := by rw [List.length_take]; omega
    have hd : d ≤ a := by
      obtain ⟨_, _, h3, h4, _⟩ := h2
      by_cases h0 : L = 0
      · rw [h4 h0]; omega
      · exact (h3 (by omega)).2.2.1
    rw [ex_snoc, ih most (by omega)]
    unfold xs
    rw [if_neg (by simp), if_neg (by rw [hl]; simp; omega), if_neg (by simp only [hl]; omega), put1_best h1 h2]
/-- with room for less the answer is that it is too large -/
theorem Gr.large {s : List Nat} {l : List Tok} (h : Gr s s.length l) (h0 : s.length ≠ 0) : Plain.ex (s.length - 1) l = (2, []) := by
  generalize hn : s.length = n at *
  cases h with
  | nil => omega
  | @step a L d l hg h1 h2 =>
    have hl : (s.take a).length = a := by rw [List.length_take]; omega
    have hd : d ≤ a := by
      obtain ⟨_, _, h3, h4, _⟩ := h2
      by_cases h0 : L = 0
      · rw [h4 h0]; omega
      · exact (h3 (by omega)).2.2.1
    rw [ex_snoc, hg.ex _ (by omega)]
    unfold xs
    rw [if_neg (by simp), if_neg (by rw [hl]; simp; omega), if_pos (by simp only [hl]; omega)]
/-- some tokens that make the first p bytes of a text -/
inductive Pr (s : List Nat) : Nat → List Tok → Prop
  | nil : Pr s 0 []
  | step {p : Nat} {l : List Tok} {t : Tok} {m d : Nat} : Pr s p l → t.2.1 = (m : Int) → t.2.2 = (d : Int) → m ≤ 255 → (0 < m → 1 ≤ d ∧ d ≤ 1024 ∧ d ≤ p ∧ mt s p d m) → p + max m 1 ≤ s.length → Pr s (p + max m 1) (l ++ [t])
theorem Pr.grow {s : List Nat} {p : Nat} {l : List Tok} (h : Pr s p l) (r : List Nat) : Pr (s ++ r) p l := by
  induction h with
  | nil => exact .nil
  | @step p l t m d _ h1 h2 h3 h4 h5 ih =>
    refine .step ih h1 h2 h3 (fun h0 => ?_) (by rw [List.length_append]; omega)
    obtain ⟨a1, a2, a3, a4⟩ := h4 h0
    refine ⟨a1, a2, a3, fun j hj => ?_⟩
    have := a4 j hj
    simp only [List.getD_eq_getElem?_getD] at this ⊢
    rw [List.getElem?_append_left (by omega), List.getElem?_append_left (by omega)]
    exact this
theorem cp_mt : ∀ (n d : Nat) (o : List Nat), 1 ≤ d → d ≤ o.length → mt (cp n d o) o.length d n
  | 0, d, o, _, _ => mt_zero _ _ _
  | n + 1, d, o, h1, h2 => by
    have ih := cp_mt n d o h1 h2
    have hl := cp_length n d o
    rw [cp_snoc]
    generalize cp n d o = c at *
    refine mt_succ (fun j hj => ?_) ?_
    · have := ih j hj
      simp only [List.getD_eq_getElem?_getD] at this ⊢
      rw [List.getElem?_append_left (by omega), List.getElem?_append_left (by omega)]
      exact this
    · rw [← hl]
      simp only [List.getD_eq_getElem?_getD]
      rw [List.getElem?_append_right (by omega), List.getElem?_append_left (by omega)]
      simp
theorem ex_pr (most : Nat) : ∀ (n : Nat) (l : List Tok) (o : List Nat), l.length = n → (∀ t ∈ l, formed t = true) → ex most l = (0, o) → Pr o o.length l
  | 0, l, o, hn, _, h => by
    obtain rfl := List.eq_nil_of_length_eq_zero hn
    rw [ex_nil] at h
    obtain rfl : [] = o := congrArg Prod.snd h
    exact .nil
  | n + 1, l, o, hn, hf, h => by
    obtain ⟨m, t, rfl⟩ : ∃ m t, l = m ++ [t] := snoc_of l (by intro h0; subst h0; cases hn)
    rw [ex_snoc] at h
    have ht := hf t (by simp)
    unfold xs at h
    by_cases h0 : (ex most m).1 ≠ 0
    · rw [if_pos h0] at h; rw [h] at h0; exact absurd rfl h0
    · rw [if_neg h0] at h
      have he : ex most m = (0, (ex most m).2) := by
        have : (ex most m).1 = 0 := by simpa using h0
        rw [← this]
      have ih := ex_pr most n m _ (by simpa using hn) (fun x hx => hf x (List.mem_append_left _ hx)) he
      generalize (ex most m).2 = o1 at *
      by_cases h1 : (o1.length : Int) < t.2.2
      · rw [if_pos h1] at h; cases h
      · rw [if_neg h1] at h
        by_cases h2 : (most : Int) < o1.length + max t.2.1 1
        · rw [if_pos h2] at h; cases h
        · rw [if_neg h2] at h
          obtain rfl : put1 t o1 = o := congrArg Prod.snd h
          have hlen := put1_length t o1 ht
          unfold formed at ht
          by_cases h3 : t.2.1 = 0
          · rw [if_pos h3, decide_eq_true_eq] at ht
            have hp : (put1 t o1).length = o1.length + max 0 1 := by rw [h3] at hlen; omega
            rw [hp]
            refine .step (d := 0) ?_ h3 ht (by omega) (fun h => absurd h (by omega)) (by omega)
            unfold put1
            rw [if_pos h3]
            exact ih.grow _
          · rw [if_neg h3, decide_eq_true_eq] at ht
            have hp : (put1 t o1).length = o1.length + max t.2.1.toNat 1 := by omega
            have e : put1 t o1 = cp t.2.1.toNat t.2.2.toNat o1 := by unfold put1; rw [if_neg h3]
            rw [hp]
            refine .step (d := t.2.2.toNat) ?_ (by omega) (by omega) (by omega) (fun _ => ⟨by omega, by omega, by omega, ?_⟩) (by omega)
            · rw [e, ← List.take_append_drop o1.length (cp t.2.1.toNat t.2.2.toNat o1), cp_prefix]
              exact ih.grow _
            · rw [e]
              exact cp_mt _ _ _ (by omega) (by omega)
theorem Pr.least {s : List Nat} {p : Nat} {l : List Tok} (h : Pr s p l) : ∀ {a : Nat} {m : List Tok}, Gr s a m → m.length = l.length → p ≤ a := by
  induction h with
  | nil => intros; omega
  | @step p l t m d _ h1 h2 h3 h4 h5 ih =>
    intro a g hg hl
    cases hg with
    | nil => simp at hl
    | @step a L d' g hg' ha hb =>
      have hi := ih hg' (by simpa using hl)
      by_cases hc : p + max m 1 ≤ a
      · omega
      · by_cases hm : m = 0
        · omega
        · obtain ⟨a1, a2, a3, a4⟩ := h4 (by omega)
          have := hb.2.2.2.2 d (p + m - a) a1 a2 (by omega) (by omega) (by omega) (by
            have e : p + (a - p) = a := by omega
            have := mt_next (s := s) (a := p) (d := d) (k := a - p) (m := p + m - a) (mt_less a4 (by omega))
            rwa [e] at this)
          omega
theorem Gr.at_ {s : List Nat} {b : Nat} {m : List Tok} (h : Gr s b m) : ∀ n, n < m.length → ∃ a m', Gr s a m' ∧ m'.length = n ∧ a < s.length := by
  induction h with
  | nil => intro n hn; simp at hn
  | @step a L d l hg h1 h2 ih =>
    intro n hn
    rw [List.length_append, List.length_singleton] at hn
    by_cases e : n = l.length
    · exact ⟨a, l, hg, e.symm, h1⟩
    · exact ih n (by omega)
/-- no tokens that make a text are fewer than the greedy ones -/
theorem greedy_least {most : Nat} {l m : List Tok} {t : List Nat} (hf : ∀ x ∈ l, formed x = true) (h : ex most l = (0, t)) (hg : Gr t t.length m) : m.length ≤ l.length := by
  rcases Nat.lt_or_ge l.length m.length with hlt | hge
  · obtain ⟨a, m', hm, hl, ha⟩ := hg.at_ _ hlt
    have := (ex_pr most l.length l t rfl hf h).least hm hl
    omega
  · exact hge
end Plain
end Go.Proofs.YtbfhhnpoogmlnaaDoor
namespace Go.Proofs.YtbfhhnpoogmlnaaDoor
open Go.RowKit Plain
/-- the cells of a token -/
def tC (t : Tok) : List Value := [.int .u8 (t.1 : Int), .int .i64 t.2.1, .int .i64 t.2.2]
theorem tC_length (t : Tok) : (tC t).length = 3 := rfl
set_option maxRecDepth 100000 in
theorem formed_any (a : Nat) (b c : Int) (w : World) : Calls Tryd.prog 150 #[.agg #[.int .u8 (a : Int), .int .i64 b, .int .i64 c]] w fun e w' => e = .returned (.bool (formed (a, b, c))) ∧ Below w.heap.size w w' := by
  have bel : Below w.heap.size w (w.alloc (.cells #[.int .u8 (a : Int), .int .i64 b, .int .i64 c] 173)) := (Below.refl _ _).alloc (Nat.le_refl _) _
  have BEL := Lib.hid bel
  clear bel
  by_cases h0 : b = 0
  · have HF : Hid (formed (a, b, c) = decide (c = 0)) := by show _ = _; simp [formed, h0]
    subst h0
    by_cases h1 : c = 0
    · have f1 : (c == 0) = true := beq_iff_eq.2 h1
      have HR : Hid (formed (a, 0, c) = true) := by show _ = _; rw [HF.out]; exact decide_eq_true h1
      clear h1
      go_enter Tryd.func150, Tryd.ntmps150
      go_wp2
      go_ret
      exact ⟨by rw [HR.out]; rfl, BEL.out⟩
    · have f1 : (c == 0) = false := beq_eq_false_iff_ne.2 h1
      have HR : Hid (formed (a, 0, c) = false) := by show _ = _; rw [HF.out]; exact decide_eq_false h1
      clear h1
      go_enter Tryd.func150, Tryd.ntmps150
      go_wp2
      go_ret
      exact ⟨by rw [HR.out]; rfl, BEL.out⟩
  · have HF : Hid (formed (a, b, c) = decide (a = 0 ∧ 1 ≤ b ∧ b ≤ 255 ∧ 1 ≤ c ∧ c ≤ 1024)) := by show _ = _; simp [formed, h0]
    have f0 : (b == 0) = false := beq_eq_false_iff_ne.2 h0
    clear h0
    by_cases h1 : a = 0
    · have f1 : ((a : Int) == 0) = true := beq_iff_eq.2 (by omega)
      by_cases h2 : 1 ≤ b
      · by_cases h3 : b ≤ 255
        · by_cases h4 : 1 ≤ c
          · by_cases h5 : c ≤ 1024
            · have HR : Hid (formed (a, b, c) = true) := by show _ = _; rw [HF.out]; exact decide_eq_true ⟨h1, h2, h3, h4, h5⟩
              clear h1
              go_enter Tryd.func150, Tryd.ntmps150
              go_wp2
              go_ret
              exact ⟨by rw [HR.out]; rfl, BEL.out⟩
            · have HR : Hid (formed (a, b, c) = false) := by show _ = _; rw [HF.out]; exact decide_eq_false fun h => h5 h.2.2.2.2
              clear h1
              go_enter Tryd.func150, Tryd.ntmps150
              go_wp2
              go_ret
              exact ⟨by rw [HR.out]; rfl, BEL.out⟩
          · have HR : Hid (formed (a, b, c) = false) := by show _ = _; rw [HF.out]; exact decide_eq_false fun h => h4 h.2.2.2.1
            clear h1
            go_enter Tryd.func150, Tryd.ntmps150
            go_wp2
            go_ret
            exact ⟨by rw [HR.out]; rfl, BEL.out⟩
        · have HR : Hid (formed (a, b, c) = false) := by show _ = _; rw [HF.out]; exact decide_eq_false fun h => h3 h.2.2.1
          clear h1
          go_enter Tryd.func150, Tryd.ntmps150
          go_wp2
          go_ret
          exact ⟨by rw [HR.out]; rfl, BEL.out⟩
      · have HR : Hid (formed (a, b, c) = false) := by show _ = _; rw [HF.out]; exact decide_eq_false fun h => h2 h.2.1
        clear h1
        go_enter Tryd.func150, Tryd.ntmps150
        go_wp2
        go_ret
        exact ⟨by rw [HR.out]; rfl, BEL.out⟩
    · have f1 : ((a : Int) == 0) = false := beq_eq_false_iff_ne.2 (by omega)
      have HR : Hid (formed (a, b, c) = false) := by show _ = _; rw [HF.out]; exact decide_eq_false fun h => h1 h.1
      clear h1
      go_enter Tryd.func150, Tryd.ntmps150
      go_wp2
      go_ret
      exact ⟨by rw [HR.out]; rfl, BEL.out⟩
set_option maxRecDepth 100000 in
theorem check_any (a : Option Addr) (cap : Nat) (l : List Tok) (w : World) (h : SAt 3 tC w a l) (hl : l.length ≤ 9223372036854775807) :
    Calls Tryd.prog 103 #[.slice a l.length cap] w fun e w' => e = .returned (.int .i64 (lchk l : Nat)) ∧ Below w.heap.size w w' := by
  have HS := Lib.hid h
  clear h
  by_cases hb : 4096 < l.length
  · have n1 : (4096 : Int) < (l.length : Int) := by omega
    have HR : Hid (lchk l = 2) := by show _ = _; rw [lchk, if_pos hb]
    clear hb
    go_enter Tryd.func103, Tryd.ntmps103
    go_wp2
    go_ret
    exact ⟨by rw [HR.out]; rfl, Below.refl _ _⟩
  · have n1 : (l.length : Int) ≤ 4096 := by omega
    have HL : Hid (lchk l = if l.all formed then 0 else 4) := by show _ = _; rw [lchk, if_neg hb]
    go_enter Tryd.func103, Tryd.ntmps103
    go_wp2_with fail
    go_loopw [10] (fun iv wr => ∃ i : Nat, i ≤ l.length ∧ iv = .int .i64 (i : Int) ∧ Below w.heap.size w wr ∧ (l.take i).all formed = true) (fun iv _ => l.length - (intOf iv).toNat)
    case atStart => exact ⟨0, by omega, rfl, Below.refl _ _, by simp⟩
    case round =>
      obtain ⟨i, hi, rfl, hbr, hall⟩ := hrel
      have HBR := Lib.hid hbr
      have HALL := Lib.hid hall
      clear hbr hall
      by_cases hlt : i < l.length
      · have m1 : (i : Int) < (l.length : Int) := by omega
        obtain ⟨g, off, rfl, hg, hr⟩ := (HS.out.below HBR.out) i hlt
        have HST : Hid ((l.take (i + 1)).all formed = formed l[i]) := by show _ = _; rw [List.take_succ_eq_append_getElem hlt, List.all_append, HALL.out]; simp
        have HMEM : Hid (l[i] ∈ l) := List.getElem_mem hlt
        generalize l[i] = t at *
        obtain ⟨ta, tb, tc⟩ := t
        have r0 : wr.cell? ⟨g, off + i * 3, none⟩ = some (.int .u8 (ta : Int)) := hr 0 _ rfl
        have r1 : wr.cell? ⟨g, off + i * 3 + 1, none⟩ = some (.int .i64 tb) := hr 1 _ rfl
        have r2 : wr.cell? ⟨g, off + i * 3 + 2, none⟩ = some (.int .i64 tc) := hr 2 _ rfl
        have HF := Lib.hid fun wx => formed_any ta tb tc wx
        have HBA := Lib.hid (Below.alloc HBR.out HBR.out.size (.cells #[.int .u8 (ta : Int), .int .i64 tb, .int .i64 tc] 173))
        clear hr hg
        cases hf : formed (ta, tb, tc) with
        | true =>
          rw [hf] at HF HST
          have HFF := Lib.hid hf
          clear hf
          go_wp2_with fail
          refine (HF.out _).mono ?_
          rintro e w1 ⟨rfl, hb1⟩
          have HB1 := Lib.hid (Below.step HBA.out hb1)
          clear hb1
          go_wp2_with fail
          go_roundw
          case rel => exact ⟨i + 1, by omega, by go_num, HB1.out, HST.out⟩
          case measure => simp [intOf]; omega
        | false =>
          rw [hf] at HF HST
          have HR : Hid (lchk l = 4) := by
            show _ = _
            rw [HL.out, if_neg]
            intro h
            have := List.all_eq_true.1 h _ HMEM.out
            rw [hf] at this
            cases this
          clear hf
          go_wp2_with fail
          refine (HF.out _).mono ?_
          rintro e w1 ⟨rfl, hb1⟩
          have HB1 := Lib.hid (Below.step HBA.out hb1)
          clear hb1
          go_wp2_with fail
          go_ret
          exact ⟨by rw [HR.out]; rfl, HB1.out⟩
      · have m1 : ¬ (i : Int) < (l.length : Int) := by omega
        have HR : Hid (lchk l = 0) := by
          show _ = _
          have := HALL.out
          rw [List.take_of_length_le (by omega)] at this
          rw [HL.out, if_pos this]
        go_wp2_with fail
        go_ret
        exact ⟨by rw [HR.out]; rfl, HBR.out⟩
end Go.Proofs.YtbfhhnpoogmlnaaDoor
namespace Go.Proofs.YtbfhhnpoogmlnaaDoor
open Go.RowKit Plain
theorem info_tok : (Tryd.prog.info? 173).map (fun i => (i.zero, i.size, i.bytes)) = some (some (.agg #[.int .u8 0, .int .i64 0, .int .i64 0]), 3, 24) := by kernel_rfl
def szTok : Value → Nat
  | .string b => b.size
  | _ => 0
theorem tCs_snoc (l : List Tok) (t : Tok) : (l ++ [t]).flatMap tC = l.flatMap tC ++ tC t := by simp
theorem empty_str {s : ByteArray} (h : s.size = 0) : s.toList.isEmpty = true := by
  rw [Lib.toList_data]
  have hl : s.data.toList.length = s.size := by rw [Array.length_toList]; rfl
  rw [List.isEmpty_iff]
  exact List.eq_nil_of_length_eq_zero (by omega)
theorem full_str {s : ByteArray} (h : s.size ≠ 0) : s.toList.isEmpty = false := by
  rw [Lib.toList_data]
  have hl : s.data.toList.length = s.size := by rw [Array.length_toList]; rfl
  cases hd : s.data.toList with
  | nil => rw [hd] at hl; simp at hl; omega
  | cons a l => rfl
/-- what Read leaves -/
def RdEnd (w0 : World) (R : Nat × List Tok) (e : Ending) (w : World) : Prop :=
  ∃ v, e = .returned (.tuple #[v, .int .i64 (R.1 : Nat)]) ∧ w.ownsRow w0.heap.size 173 3 v R.2.length (R.2.flatMap tC) ∧ Below w0.heap.size w0 w
theorem read_bad {w0 w : World} {k : Nat} {acc : List Tok} {R r : Nat × List Tok} (hk : k ≠ 0) (h : cont acc r = R) (hr : r = (k, [])) (hb : Below w0.heap.size w0 w) (c : Int) (hc : c = (k : Int)) : RdEnd w0 R (.returned (.tuple #[.slice none 0 0, .int .i64 c])) w := by
  subst hr hc
  have e : cont acc (k, []) = (k, []) := by simp [cont, hk]
  rw [e] at h
  subst h
  exact ⟨_, rfl, World.ownsRow_nil _ _ _ _, hb⟩
theorem read_end {w0 w : World} {acc : List Tok} {R r : Nat × List Tok} {v : Value} (h : cont acc r = R) (hr : r = (0, [])) (hb : Below w0.heap.size w0 w) (hown : w.ownsRow w0.heap.size 173 3 v acc.length (acc.flatMap tC)) : RdEnd w0 R (.returned (.tuple #[v, .int .i64 0])) w := by
  subst hr
  have e : cont acc (0, []) = (0, acc) := by simp [cont]
  rw [e] at h
  subst h
  exact ⟨_, rfl, hown, hb⟩
theorem own_form {w : World} {base : Nat} {t : TypeId} {n k : Nat} {v : Value} {xs : List Value} (h : w.ownsRow base t k v n xs) : ∃ a c, v = .slice a n c := by
  rcases h.2 with ⟨rfl, rfl⟩ | ⟨g, cap, cur, rfl, _⟩
  · exact ⟨none, 0, rfl⟩
  · exact ⟨_, cap, rfl⟩
theorem own_below {w w1 : World} {base : Nat} {t : TypeId} {k n : Nat} {v : Value} {xs : List Value} (h : w.ownsRow base t k v n xs) (hb : Below w.heap.size w w1) : w1.ownsRow base t k v n xs := by
  refine ⟨h.1, ?_⟩
  rcases h.2 with h0 | ⟨g, cap, cur, hv, hbg, hg, hr⟩
  · exact .inl h0
  · exact .inr ⟨g, cap, cur, hv, hbg, (hb.block g (lt_of_block hg)).trans hg, hr⟩
theorem tC_one (t : Tok) : ∀ u ∈ tC t, u.oneCell' = true := by
  intro u hu
  simp only [tC, List.mem_cons, List.not_mem_nil, or_false] at hu
  rcases hu with rfl | rfl | rfl <;> rfl
theorem byte0 {s : ByteArray} (h : 0 < s.size) : (strN s).getD 0 0 = (s[0]'h).toNat := (byte_get s 0 h).symm
theorem or_bytes (a b : Nat) (ha : a < 256) (hb : b < 256) : bits .or .i64 (a : Int) ((b : Int) * (256 : Int)) = ((a + 256 * b : Nat) : Int) := by
  have e : (b : Int) * (256 : Int) = (((b <<< 8) : Nat) : Int) := by rw [Nat.shiftLeft_eq]; simp
  rw [e, i64_or_nat a _ (by omega) (by rw [Nat.shiftLeft_eq]; omega)]
  congr 1
  rw [Nat.or_comm, ← Nat.shiftLeft_add_eq_or_of_lt (by omega), Nat.shiftLeft_eq]
  omega
set_option maxRecDepth 100000 in
set_option maxHeartbeats 4000000 in
theorem read_any (s : ByteArray) (w : World) (hs : s.size ≤ 9223372036854775807) :
    Calls Tryd.prog 117 #[.string s] w (RdEnd w (rd 0 (strN s))) := by
  obtain ⟨i0, hi0, hz0, hz1, hz2⟩ := info_parts info_tok
  have HR0 := Lib.hid (cont_nil 0 (strN s))
  obtain ⟨R, hR⟩ : ∃ R, R = rd 0 (strN s) := ⟨_, rfl⟩
  have HRR := Lib.hid hR
  rw [← hR]
  clear hR
  have HS := Lib.hid hs
  clear hs
  go_enter Tryd.func117, Tryd.ntmps117
  go_wp2_with fail
  go_loopw [0, 4] (fun sv ov wr => ∃ (s' : ByteArray) (acc : List Tok) (oa : Option Addr) (oc : Nat), sv = .string s' ∧ ov = .slice oa acc.length oc ∧ s'.size ≤ 9223372036854775807 ∧ acc.length ≤ 4096 ∧ wr.ownsRow w.heap.size 173 3 (.slice oa acc.length oc) acc.length (acc.flatMap tC) ∧ Below w.heap.size w wr ∧ cont acc (rd acc.length (strN s')) = R) (fun sv _ _ => szTok sv)
  case atStart => exact ⟨s, [], none, 0, rfl, rfl, HS.out, by simp, World.ownsRow_nil _ _ _ _, Below.refl _ _, by rw [HRR.out]; exact HR0.out⟩
  case round =>
    obtain ⟨s', acc, oa, oc, rfl, rfl, hsz, hacc, hown, hbr, hcont⟩ := hrel
    have HOWN := Lib.hid hown
    have HBR := Lib.hid hbr
    have HC := Lib.hid hcont
    clear hown hbr hcont
    have hw0 : w.heap.size ≤ wr.heap.size := HBR.out.size
    have HLN := Lib.hid (strN_length s')
    by_cases he : s'.size = 0
    · have e1 := empty_str he
      have HRD := Lib.hid (rd_nil acc.length (strN s') (by rw [HLN.out]; exact he))
      clear he
      go_wp2_with fail
      go_ret2
      exact read_end HC.out HRD.out HBR.out HOWN.out
    · have e1 := full_str he
      have hne : (strN s').length ≠ 0 := by rw [HLN.out]; exact he
      have HNE := Lib.hid hne
      have h0 : 0 < s'.size := by omega
      clear he hne
      by_cases hz : (s'[0]'h0).toNat = 0
      · have b0 : (((s'[0]'h0).toNat : Int) == 0) = true := by rw [hz]; rfl
        have HTN : Hid (tn (strN s') = 2) := by show _ = _; unfold tn; rw [byte0 h0, if_pos hz]
        by_cases hsh : s'.size < 2
        · have n1 : (s'.size : Int) < 2 := by omega
          have HRD := Lib.hid (rd_short acc.length (strN s') HNE.out (by rw [HTN.out, HLN.out]; exact hsh))
          clear hz hsh
          go_wp2_with fail
          go_ret2
          exact read_bad (by decide) HC.out HRD.out HBR.out _ rfl
        · have n1 : ¬ (s'.size : Int) < 2 := by omega
          have hge : Hid (tn (strN s') ≤ (strN s').length) := by show _ ≤ _; rw [HTN.out, HLN.out]; omega
          have h1 : 1 < s'.size := by omega
          have HTK : Hid (tk (strN s') = ((s'[1]'h1).toNat, 0, 0)) := by show _ = _; unfold tk; rw [byte0 h0, (byte_get s' 1 h1).symm, if_pos hz]
          have hfm : formed (tk (strN s')) = true := by rw [HTK.out]; rfl
          have HFM := Lib.hid hfm
          have HF := Lib.hid fun wx => formed_any (s'[1]'h1).toNat 0 0 wx
          rw [HTK.out] at hfm
          rw [hfm] at HF
          clear hz hsh hfm
          by_cases hk : acc.length = 4096
          · have f2 : ((acc.length : Int) == 4096) = true := beq_iff_eq.2 (by omega)
            have HRD := Lib.hid (rd_large acc.length (strN s') HNE.out hge.out HFM.out hk)
            clear hk
            go_wp2_with fail
            refine (HF.out _).mono ?_
            rintro e w1 ⟨rfl, hb1⟩
            have HB1 := Lib.hid (Below.step (Below.alloc HBR.out HBR.out.size (.cells #[.int .u8 (((s'[1]'h1).toNat : Nat) : Int), .int .i64 0, .int .i64 0] 173)) hb1)
            clear hb1
            go_wp2_with fail
            go_ret2
            exact read_bad (by decide) HC.out HRD.out HB1.out _ rfl
          · have f2 : ((acc.length : Int) == 4096) = false := beq_eq_false_iff_ne.2 (by omega)
            have HNEW := Lib.hid (cont_more acc acc.length (strN s') HNE.out hge.out HFM.out hk)
            rw [HTK.out, HTN.out, ← extract_strN s' 2] at HNEW
            have hk2 : acc.length + 1 ≤ 4096 := by omega
            have HK2 := Lib.hid hk2
            clear hk hk2
            go_wp2_with fail
            refine (HF.out _).mono ?_
            rintro e w1 ⟨rfl, hb1⟩
            have HB1 := Lib.hid (Below.step (Below.alloc HBR.out HBR.out.size (.cells #[.int .u8 (((s'[1]'h1).toNat : Nat) : Int), .int .i64 0, .int .i64 0] 173)) hb1)
            have HROW := (hb1.block wr.heap.size (by simp)).trans (show (wr.alloc (.cells #[.int .u8 (((s'[1]'h1).toNat : Nat) : Int), .int .i64 0, .int .i64 0] 173)).heap[wr.heap.size]? = _ from heap_alloc_new wr _)
            have r0 := cell_of_row w1 wr.heap.size 0 _ _ _ HROW
            have r1 := cell_of_row w1 wr.heap.size 1 _ _ _ HROW
            have r2 := cell_of_row w1 wr.heap.size 2 _ _ _ HROW
            simp only [List.getElem?_toArray, List.getElem?_cons_zero, List.getElem?_cons_succ] at r0 r1 r2
            have HO1 := Lib.hid (own_below (own_below HOWN.out (show Below wr.heap.size wr (wr.alloc (.cells #[.int .u8 (((s'[1]'h1).toNat : Nat) : Int), .int .i64 0, .int .i64 0] 173)) from (Below.alloc (Below.refl _ _) (Nat.le_refl _) _))) hb1)
            have D1 := Lib.hid (cells_new w1 #[.int .u8 (((s'[1]'h1).toNat : Nat) : Int), .int .i64 0, .int .i64 0] 173)
            have D2 : Hid (∀ u ∈ tC ((s'[1]'h1).toNat, (0 : Int), (0 : Int)), u.oneCell' = true) := fun u hu => tC_one _ u hu
            have D3 : Hid (acc.length + 1 ≤ maxLen) := by show _ ≤ _; have := HK2.out; unfold maxLen; omega
            have D4 : Hid ((acc.length + 1) * 24 ≤ 140737488355328) := by show _ ≤ _; have := HK2.out; omega
            have hw1 : w.heap.size ≤ w1.heap.size := HB1.out.size
            have D5 : Hid (w.heap.size ≤ (w1.alloc (.cells #[.int .u8 (((s'[1]'h1).toNat : Nat) : Int), .int .i64 0, .int .i64 0] 173)).heap.size) := by show _ ≤ _; simp; omega
            clear hb1 HROW
            go_wp2_with (at_builtin; refine wpList_append_own _ rfl _ _ 112 rfl w.heap.size 173 i0 (.agg #[.int .u8 0, .int .i64 0, .int .i64 0]) 3 24 Tryd.underlying112 hi0 hz0 hz1 hz2 rfl (by decide) _ _ _ rfl (HO1.out.alloc _) ⟨w1.heap.size, 0, none⟩ 1 1 (tC ((s'[1]'h1).toNat, (0 : Int), (0 : Int))) rfl rfl D1.out D2.out D3.out D4.out D5.out ?_)
            intro v' w2 hown' hgrow _
            have BW := Lib.hid (below_own (HB1.out.alloc hw1 _) hgrow (by simp; omega) (HO1.out.alloc _) (Nat.le_refl _))
            obtain ⟨oa2, oc2, rfl⟩ := own_form hown'
            have OW : Hid (w2.ownsRow w.heap.size 173 3 (.slice oa2 (acc ++ [((s'[1]'h1).toNat, (0 : Int), (0 : Int))]).length oc2) (acc ++ [((s'[1]'h1).toNat, (0 : Int), (0 : Int))]).length ((acc ++ [((s'[1]'h1).toNat, (0 : Int), (0 : Int))]).flatMap tC)) := by
              show w2.ownsRow _ _ _ _ _ _
              rw [List.length_append, tCs_snoc]
              exact hown'
            clear hown' hgrow r0 r1 r2
            have hx : (s'.extract 2 s'.size).size = s'.size - 2 := by rw [← strN_length, extract_strN, List.length_drop, strN_length]
            have HX := Lib.hid hx
            clear hx
            go_wp2_with fail
            go_roundw
            case rel => exact ⟨s'.extract 2 s'.size, acc ++ [((s'[1]'h1).toNat, (0 : Int), (0 : Int))], oa2, oc2, rfl, by rw [List.length_append]; rfl, by rw [HX.out]; omega, by rw [List.length_append]; exact HK2.out, OW.out, BW.out, by rw [List.length_append]; exact HNEW.out.symm.trans HC.out⟩
            case measure => simp only [szTok]; rw [HX.out]; omega
      · have b0 : (((s'[0]'h0).toNat : Int) == 0) = false := by rw [beq_eq_false_iff_ne]; omega
        have HTN : Hid (tn (strN s') = 3) := by show _ = _; unfold tn; rw [byte0 h0, if_neg hz]
        by_cases hsh : s'.size < 3
        · have n1 : (s'.size : Int) < 3 := by omega
          have HRD := Lib.hid (rd_short acc.length (strN s') HNE.out (by rw [HTN.out, HLN.out]; exact hsh))
          clear hz hsh
          go_wp2_with fail
          go_ret2
          exact read_bad (by decide) HC.out HRD.out HBR.out _ rfl
        · have n1 : ¬ (s'.size : Int) < 3 := by omega
          have hge : Hid (tn (strN s') ≤ (strN s').length) := by show _ ≤ _; rw [HTN.out, HLN.out]; omega
          have h1 : 1 < s'.size := by omega
          have h2 : 2 < s'.size := by omega
          have HOR := Lib.hid (or_bytes (s'[1]'h1).toNat (s'[2]'h2).toNat (UInt8.toNat_lt _) (UInt8.toNat_lt _))
          have HTK : Hid (tk (strN s') = (0, ((s'[0]'h0).toNat : Int), (((s'[1]'h1).toNat + 256 * (s'[2]'h2).toNat : Nat) : Int))) := by show _ = _; unfold tk; rw [byte0 h0, (byte_get s' 1 h1).symm, (byte_get s' 2 h2).symm, if_neg hz]
          have n2 : (2 : Int) < (s'.size : Int) := by omega
          have n3 : (1 : Int) < (s'.size : Int) := by omega
          have n4 : (0 : Int) < (s'.size : Int) := by omega
          have l0 := UInt8.toNat_lt (s'[0]'h0)
          have l1 := UInt8.toNat_lt (s'[1]'h1)
          have l2 := UInt8.toNat_lt (s'[2]'h2)
          obtain ⟨D, hD⟩ : ∃ D, D = (s'[1]'h1).toNat + 256 * (s'[2]'h2).toNat := ⟨_, rfl⟩
          have hor := HOR.out
          rw [← hD] at HTK hor
          clear hD HOR
          have HF := Lib.hid fun wx => formed_any 0 ((s'[0]'h0).toNat : Int) (D : Int) wx
          clear hz hsh
          by_cases hfm : formed (tk (strN s')) = true
          rotate_left
          · have hfm2 : formed (tk (strN s')) = false := by simpa using hfm
            have HRD := Lib.hid (rd_form acc.length (strN s') HNE.out hge.out hfm2)
            rw [HTK.out] at hfm2
            rw [hfm2] at HF
            clear hfm hfm2
            go_wp2_with fail
            go_region
            go_wp2_with fail
            refine (HF.out _).mono ?_
            rintro e w1 ⟨rfl, hb1⟩
            have HB1 := Lib.hid (Below.step (Below.alloc HBR.out HBR.out.size (.cells #[.int .u8 0, .int .i64 (((s'[0]'h0).toNat : Nat) : Int), .int .i64 (D : Int)] 173)).drew hb1)
            clear hb1
            go_wp2_with fail
            go_ret2
            exact read_bad (by decide) HC.out HRD.out HB1.out _ rfl
          have HFM := Lib.hid hfm
          rw [HTK.out] at hfm
          rw [hfm] at HF
          clear hfm
          by_cases hk : acc.length = 4096
          · have f2 : ((acc.length : Int) == 4096) = true := beq_iff_eq.2 (by omega)
            have HRD := Lib.hid (rd_large acc.length (strN s') HNE.out hge.out HFM.out hk)
            clear hk
            go_wp2_with fail
            go_region
            go_wp2_with fail
            refine (HF.out _).mono ?_
            rintro e w1 ⟨rfl, hb1⟩
            have HB1 := Lib.hid (Below.step (Below.alloc HBR.out HBR.out.size (.cells #[.int .u8 0, .int .i64 (((s'[0]'h0).toNat : Nat) : Int), .int .i64 (D : Int)] 173)).drew hb1)
            clear hb1
            go_wp2_with fail
            go_ret2
            exact read_bad (by decide) HC.out HRD.out HB1.out _ rfl
          · have f2 : ((acc.length : Int) == 4096) = false := beq_eq_false_iff_ne.2 (by omega)
            have HNEW := Lib.hid (cont_more acc acc.length (strN s') HNE.out hge.out HFM.out hk)
            rw [HTK.out, HTN.out, ← extract_strN s' 3] at HNEW
            have hk2 : acc.length + 1 ≤ 4096 := by omega
            have HK2 := Lib.hid hk2
            clear hk hk2
            go_wp2_with fail
            go_region
            go_wp2_with fail
            refine (HF.out _).mono ?_
            rintro e w1 ⟨rfl, hb1⟩
            have HB1 := Lib.hid (Below.step (Below.alloc HBR.out HBR.out.size (.cells #[.int .u8 0, .int .i64 (((s'[0]'h0).toNat : Nat) : Int), .int .i64 (D : Int)] 173)).drew hb1)
            have HROW := (hb1.block wr.heap.size (by simp)).trans (show (wr.alloc (.cells #[.int .u8 0, .int .i64 (((s'[0]'h0).toNat : Nat) : Int), .int .i64 (D : Int)] 173)).drew.heap[wr.heap.size]? = _ from heap_alloc_new wr _)
            have r0 := cell_of_row w1 wr.heap.size 0 _ _ _ HROW
            have r1 := cell_of_row w1 wr.heap.size 1 _ _ _ HROW
            have r2 := cell_of_row w1 wr.heap.size 2 _ _ _ HROW
            simp only [List.getElem?_toArray, List.getElem?_cons_zero, List.getElem?_cons_succ] at r0 r1 r2
            have HO1 := Lib.hid (own_below (own_below HOWN.out (show Below wr.heap.size wr (wr.alloc (.cells #[.int .u8 0, .int .i64 (((s'[0]'h0).toNat : Nat) : Int), .int .i64 (D : Int)] 173)).drew from (Below.alloc (Below.refl _ _) (Nat.le_refl _) _).drew)) hb1)
            have D1 := Lib.hid (cells_new w1 #[.int .u8 0, .int .i64 (((s'[0]'h0).toNat : Nat) : Int), .int .i64 (D : Int)] 173)
            have D2 : Hid (∀ u ∈ tC (0, ((s'[0]'h0).toNat : Int), (D : Int)), u.oneCell' = true) := fun u hu => tC_one _ u hu
            have D3 : Hid (acc.length + 1 ≤ maxLen) := by show _ ≤ _; have := HK2.out; unfold maxLen; omega
            have D4 : Hid ((acc.length + 1) * 24 ≤ 140737488355328) := by show _ ≤ _; have := HK2.out; omega
            have hw1 : w.heap.size ≤ w1.heap.size := HB1.out.size
            have D5 : Hid (w.heap.size ≤ (w1.alloc (.cells #[.int .u8 0, .int .i64 (((s'[0]'h0).toNat : Nat) : Int), .int .i64 (D : Int)] 173)).heap.size) := by show _ ≤ _; simp; omega
            clear hb1 HROW
            go_wp2_with (at_builtin; refine wpList_append_own _ rfl _ _ 112 rfl w.heap.size 173 i0 (.agg #[.int .u8 0, .int .i64 0, .int .i64 0]) 3 24 Tryd.underlying112 hi0 hz0 hz1 hz2 rfl (by decide) _ _ _ rfl (HO1.out.alloc _) ⟨w1.heap.size, 0, none⟩ 1 1 (tC (0, ((s'[0]'h0).toNat : Int), (D : Int))) rfl rfl D1.out D2.out D3.out D4.out D5.out ?_)
            intro v' w2 hown' hgrow _
            have BW := Lib.hid (below_own (HB1.out.alloc hw1 _) hgrow (by simp; omega) (HO1.out.alloc _) (Nat.le_refl _))
            obtain ⟨oa2, oc2, rfl⟩ := own_form hown'
            have OW : Hid (w2.ownsRow w.heap.size 173 3 (.slice oa2 (acc ++ [(0, ((s'[0]'h0).toNat : Int), (D : Int))]).length oc2) (acc ++ [(0, ((s'[0]'h0).toNat : Int), (D : Int))]).length ((acc ++ [(0, ((s'[0]'h0).toNat : Int), (D : Int))]).flatMap tC)) := by
              show w2.ownsRow _ _ _ _ _ _
              rw [List.length_append, tCs_snoc]
              exact hown'
            clear hown' hgrow r0 r1 r2
            have hx : (s'.extract 3 s'.size).size = s'.size - 3 := by rw [← strN_length, extract_strN, List.length_drop, strN_length]
            have HX := Lib.hid hx
            clear hx
            go_wp2_with fail
            go_roundw
            case rel => exact ⟨s'.extract 3 s'.size, acc ++ [(0, ((s'[0]'h0).toNat : Int), (D : Int))], oa2, oc2, rfl, by rw [List.length_append]; rfl, by rw [HX.out]; omega, by rw [List.length_append]; exact HK2.out, OW.out, BW.out, by rw [List.length_append]; exact HNEW.out.symm.trans HC.out⟩
            case measure => simp only [szTok]; rw [HX.out]; omega
end Go.Proofs.YtbfhhnpoogmlnaaDoor
