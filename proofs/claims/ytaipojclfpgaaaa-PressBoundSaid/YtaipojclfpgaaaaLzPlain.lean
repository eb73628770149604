/- Plain laws of the compression by copies: tokens, their bytes, what they make, the greedy tokens. -/
import Derived.WalkKit
namespace Go.Proofs.Ytaipojclfpgaaaa
namespace Plain
/-- a token: its letter, length and distance -/
abbrev Tok := Nat × Int × Int
def formed (t : Tok) : Bool := if t.2.1 = 0 then decide (t.2.2 = 0) else decide (t.1 = 0 ∧ 1 ≤ t.2.1 ∧ t.2.1 ≤ 255 ∧ 1 ≤ t.2.2 ∧ t.2.2 ≤ 1024)
/-- what Check answers -/
def lchk (l : List Tok) : Nat := if 4096 < l.length then 2 else if l.all formed then 0 else 4
theorem lchk_ok {l : List Tok} : lchk l = 0 ↔ l.length ≤ 4096 ∧ ∀ t ∈ l, formed t = true := by
  unfold lchk
  constructor
  · intro h
    split at h
    · cases h
    · split at h
      · rename_i h1 h2
        exact ⟨by omega, by simpa using h2⟩
      · cases h
  · rintro ⟨h1, h2⟩
    rw [if_neg (by omega), if_pos (by simpa using h2)]
/-- the bytes of a token -/
def pk1 (t : Tok) : List Nat := if t.2.1 = 0 then [0, t.1] else [(t.2.1 % 256).toNat, (t.2.2 % 256).toNat, (t.2.2 / 256 % 256).toNat]
def pk (l : List Tok) : List Nat := l.flatMap pk1
theorem pk_nil : pk [] = [] := rfl
theorem pk_cons (t : Tok) (l : List Tok) : pk (t :: l) = pk1 t ++ pk l := rfl
theorem pk_snoc (l : List Tok) (t : Tok) : pk (l ++ [t]) = pk l ++ pk1 t := by simp [pk]
theorem pk1_length (t : Tok) : 2 ≤ (pk1 t).length ∧ (pk1 t).length ≤ 3 := by unfold pk1; split <;> simp
theorem pk1_lt (t : Tok) (h : t.1 < 256) : ∀ c ∈ pk1 t, c < 256 := by
  intro c hc
  unfold pk1 at hc
  split at hc
  · simp at hc
    omega
  · simp at hc
    omega
theorem pk_lt (l : List Tok) (h : ∀ t ∈ l, t.1 < 256) : ∀ c ∈ pk l, c < 256 := by
  intro c hc
  obtain ⟨t, ht, hc⟩ := List.mem_flatMap.1 hc
  exact pk1_lt t (h t ht) c hc
theorem pk_length : ∀ l : List Tok, (pk l).length ≤ 3 * l.length
  | [] => by simp [pk]
  | t :: l => by rw [pk_cons, List.length_append, List.length_cons]; have := pk1_length t; have := pk_length l; omega
/-- how many bytes the first token takes -/
def tn (s : List Nat) : Nat := if s.getD 0 0 = 0 then 2 else 3
/-- the first token -/
def tk (s : List Nat) : Tok := if s.getD 0 0 = 0 then (s.getD 1 0, 0, 0) else (0, (s.getD 0 0 : Int), ((s.getD 1 0 + 256 * s.getD 2 0 : Nat) : Int))
theorem tn_pos (s : List Nat) : 2 ≤ tn s ∧ tn s ≤ 3 := by unfold tn; split <;> omega
/-- what Read answers behind k tokens: the error and the tokens -/
def rd (k : Nat) (s : List Nat) : Nat × List Tok :=
  if _h : s.length = 0 then (0, []) else
  if s.length < tn s then (3, []) else
  if formed (tk s) = false then (4, []) else
  if k = 4096 then (2, []) else
  if (rd (k + 1) (s.drop (tn s))).1 = 0 then (0, tk s :: (rd (k + 1) (s.drop (tn s))).2) else ((rd (k + 1) (s.drop (tn s))).1, [])
termination_by s.length
decreasing_by all_goals (have := tn_pos s; simp only [List.length_drop]; omega)
theorem rd_nil (k : Nat) (s : List Nat) (h : s.length = 0) : rd k s = (0, []) := by rw [rd, dif_pos h]
theorem rd_short (k : Nat) (s : List Nat) (h : s.length ≠ 0) (h1 : s.length < tn s) : rd k s = (3, []) := by rw [rd, dif_neg h, if_pos h1]
theorem rd_form (k : Nat) (s : List Nat) (h : s.length ≠ 0) (h1 : tn s ≤ s.length) (h2 : formed (tk s) = false) : rd k s = (4, []) := by rw [rd, dif_neg h, if_neg (by omega), if_pos h2]
theorem rd_large (k : Nat) (s : List Nat) (h : s.length ≠ 0) (h1 : tn s ≤ s.length) (h2 : formed (tk s) = true) (h3 : k = 4096) : rd k s = (2, []) := by
  rw [rd, dif_neg h, if_neg (by omega), if_neg (by simp [h2]), if_pos h3]
theorem rd_more (k : Nat) (s : List Nat) (h : s.length ≠ 0) (h1 : tn s ≤ s.length) (h2 : formed (tk s) = true) (h3 : k ≠ 4096) :
    rd k s = if (rd (k + 1) (s.drop (tn s))).1 = 0 then (0, tk s :: (rd (k + 1) (s.drop (tn s))).2) else ((rd (k + 1) (s.drop (tn s))).1, []) := by
  rw [rd, dif_neg h, if_neg (by omega), if_neg (by simp [h2]), if_neg h3]
/-- what comes of the whole, out of what came so far and what comes of the rest -/
def cont (acc : List Tok) (r : Nat × List Tok) : Nat × List Tok := if r.1 = 0 then (0, acc ++ r.2) else (r.1, [])
theorem cont_more (acc : List Tok) (k : Nat) (s : List Nat) (h : s.length ≠ 0) (h1 : tn s ≤ s.length) (h2 : formed (tk s) = true) (h3 : k ≠ 4096) :
    cont acc (rd k s) = cont (acc ++ [tk s]) (rd (k + 1) (s.drop (tn s))) := by
  rw [rd_more k s h h1 h2 h3]
  unfold cont
  by_cases h0 : (rd (k + 1) (s.drop (tn s))).1 = 0
  · simp [h0]
  · simp [h0]
theorem cont_nil (k : Nat) (s : List Nat) : cont [] (rd k s) = rd k s := by
  unfold cont
  by_cases h0 : (rd k s).1 = 0
  · simp only [h0, if_true, List.nil_append]
    rw [← h0]
  · simp only [h0, if_false]
    rw [rd] at h0 ⊢
    by_cases a : s.length = 0
    · simp [a] at h0
    · rw [dif_neg a] at h0 ⊢
      split
      · rfl
      · split
        · rfl
        · split
          · rfl
          · split
            · rename_i hh
              simp_all
            · rfl
theorem tn_pk1 (t : Tok) (h : formed t = true) (r : List Nat) : tn (pk1 t ++ r) = (pk1 t).length := by
  unfold tn pk1 formed at *
  by_cases h0 : t.2.1 = 0
  · simp [h0]
  · simp only [h0, if_false, decide_eq_true_eq] at h
    simp only [h0, if_false, List.cons_append, List.getD_cons_zero]
    rw [if_neg (by omega)]
    rfl
theorem tk_pk1 (t : Tok) (h : formed t = true) (r : List Nat) : tk (pk1 t ++ r) = t := by
  obtain ⟨a, b, c⟩ := t
  unfold tk pk1 formed at *
  simp only at h
  by_cases h0 : b = 0
  · simp only [h0, if_true, decide_eq_true_eq] at h
    subst h0
    simp [h]
  · simp only [h0, if_false, decide_eq_true_eq] at h
    simp only [h0, if_false, List.cons_append, List.getD_cons_zero, List.getD_cons_succ]
    rw [if_neg (by omega)]
    obtain ⟨h1, h2, h3, h4, h5⟩ := h
    simp only [Prod.mk.injEq]
    refine ⟨h1.symm, by omega, by omega⟩
/-- what is packed is read as it was -/
theorem rd_pk : ∀ (l : List Tok) (k : Nat), k + l.length ≤ 4096 → (∀ t ∈ l, formed t = true) → rd k (pk l) = (0, l)
  | [], k, _, _ => rd_nil k _ rfl
  | t :: l, k, hk, h => by
    have ht := h t List.mem_cons_self
    have h2 := pk1_length t
    rw [List.length_cons] at hk
    have ih := rd_pk l (k + 1) (by omega) (fun x hx => h x (List.mem_cons_of_mem _ hx))
    have hd : (pk (t :: l)).drop (tn (pk (t :: l))) = pk l := by rw [pk_cons, tn_pk1 t ht, List.drop_left]
    have hk2 : tk (pk (t :: l)) = t := by rw [pk_cons]; exact tk_pk1 t ht _
    have htn : tn (pk (t :: l)) = (pk1 t).length := by rw [pk_cons]; exact tn_pk1 t ht _
    have hlen : (pk (t :: l)).length = (pk1 t).length + (pk l).length := by rw [pk_cons, List.length_append]
    rw [rd_more k _ (by omega) (by omega) (by rw [hk2]; exact ht) (by omega), hd, ih, hk2]
    rfl
theorem pk1_tk (s : List Nat) (hs : ∀ c ∈ s, c < 256) (h : tn s ≤ s.length) : pk1 (tk s) = s.take (tn s) := by
  have hg : ∀ i, s.getD i 0 < 256 := fun i => by
    rw [List.getD_eq_getElem?_getD]
    cases hg : s[i]? with
    | none => decide
    | some v => exact hs v (List.mem_of_getElem? hg)
  have g0 := hg 0
  have g1 := hg 1
  have g2 := hg 2
  have : 2 ≤ s.length := by have := tn_pos s; omega
  match s, this with
  | [a, b], _ =>
    unfold tn at h ⊢
    unfold tk pk1
    simp only [List.getD_cons_zero, List.getD_cons_succ, List.length_cons, List.length_nil] at *
    by_cases h0 : a = 0
    · simp [h0]
    · rw [if_neg h0] at h; omega
  | a :: b :: c :: r, _ =>
    unfold tn tk pk1
    simp only [List.getD_cons_zero, List.getD_cons_succ] at *
    by_cases h0 : a = 0
    · simp [h0]
    · simp only [h0, if_false]
      rw [if_neg (by omega)]
      simp only [List.take_succ_cons, List.take_zero, List.cons.injEq, and_true]
      omega
/-- what is read is packed as it stood -/
theorem pk_rd : ∀ (n : Nat) (s : List Nat) (k : Nat), s.length ≤ n → k ≤ 4096 → (∀ c ∈ s, c < 256) → (rd k s).1 = 0 → pk (rd k s).2 = s ∧ k + (rd k s).2.length ≤ 4096 ∧ ∀ t ∈ (rd k s).2, formed t = true
  | 0, s, k, hn, hk, _, _ => by
    rw [rd_nil k s (by omega)]
    exact ⟨(List.eq_nil_of_length_eq_zero (by omega)).symm, by simpa using hk, by simp⟩
  | n + 1, s, k, hn, hk, hs, h => by
    by_cases h0 : s.length = 0
    · rw [rd_nil k s h0]
      exact ⟨(List.eq_nil_of_length_eq_zero h0).symm, by simpa using hk, by simp⟩
    · by_cases h1 : s.length < tn s
      · rw [rd_short k s h0 h1] at h; cases h
      · by_cases h2 : formed (tk s) = false
        · rw [rd_form k s h0 (by omega) h2] at h; cases h
        · have h2' : formed (tk s) = true := by simpa using h2
          by_cases h3 : k = 4096
          · rw [rd_large k s h0 (by omega) h2' h3] at h; cases h
          · have htn := tn_pos s
            rw [rd_more k s h0 (by omega) h2' h3] at h ⊢
            by_cases h4 : (rd (k + 1) (s.drop (tn s))).1 = 0
            · obtain ⟨a, b, c⟩ := pk_rd n (s.drop (tn s)) (k + 1) (by rw [List.length_drop]; omega) (by omega) (fun c hc => hs c (List.mem_of_mem_drop hc)) h4
              rw [if_pos h4]
              refine ⟨?_, ?_, ?_⟩
              · show pk (tk s :: (rd (k + 1) (s.drop (tn s))).2) = s
                rw [pk_cons, a, pk1_tk s hs (by omega), List.take_append_drop]
              · simp only [List.length_cons]; omega
              · intro t ht
                rcases List.mem_cons.1 ht with rfl | ht
                · exact h2'
                · exact c t ht
            · rw [if_neg h4] at h; exact absurd h h4
theorem rd_err (k : Nat) (s : List Nat) (h : (rd k s).1 ≠ 0) : (rd k s).2 = [] ∧ s.length ≠ 0 := by
  have hc := cont_nil k s
  unfold cont at hc
  rw [if_neg h] at hc
  refine ⟨by rw [← hc], fun h0 => h (by rw [rd_nil k s h0])⟩
theorem rd_le (k : Nat) (s : List Nat) : (rd k s).1 ≤ 4 := by
  induction hn : s.length using Nat.strongRecOn generalizing k s with
  | _ n ih =>
    by_cases h0 : s.length = 0
    · rw [rd_nil k s h0]; decide
    · by_cases h1 : s.length < tn s
      · rw [rd_short k s h0 h1]; decide
      · by_cases h2 : formed (tk s) = false
        · rw [rd_form k s h0 (by omega) h2]; decide
        · have h2' : formed (tk s) = true := by simpa using h2
          by_cases h3 : k = 4096
          · rw [rd_large k s h0 (by omega) h2' h3]; decide
          · have htn := tn_pos s
            rw [rd_more k s h0 (by omega) h2' h3]
            split
            · exact Nat.zero_le _
            · exact ih (s.drop (tn s)).length (by rw [List.length_drop]; omega) (k + 1) _ rfl
end Plain
end Go.Proofs.Ytaipojclfpgaaaa
