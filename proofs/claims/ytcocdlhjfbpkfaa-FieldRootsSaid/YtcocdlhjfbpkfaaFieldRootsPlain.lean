/- Plain facts on polynomials over bytes: a polynomial has at most as many roots as its degree. -/
import Derived.Test.YtcocdlhjfbpkfaaFieldPlain
namespace Go.Proofs.Ytcocdlhjfbpkfaa.Plain
/-- the value of a polynomial -/
def fat : List Nat → Nat → Nat
  | [], _ => 0
  | c :: t, x => fmul (fat t x) x ^^^ c
theorem fat_lt (p : List Nat) (x : Nat) (hp : ∀ c ∈ p, c < 256) : fat p x < 256 := by
  induction p with
  | nil => simp [fat]
  | cons c t ih =>
    have h1 := fmul_lt (fat t x) x (ih fun d hd => hp d (by simp [hd]))
    exact Nat.xor_lt_two_pow (n := 8) h1 (hp c (by simp))
theorem fat_xor (p q : List Nat) (x : Nat) (h : p.length = q.length) : fat (List.zipWith (· ^^^ ·) p q) x = fat p x ^^^ fat q x := by
  induction p generalizing q with
  | nil => cases q with
    | nil => simp [fat]
    | cons => simp at h
  | cons c t ih => cases q with
    | nil => simp at h
    | cons d u =>
      have h1 := ih u (by simpa using h)
      show fmul (fat (List.zipWith (· ^^^ ·) t u) x) x ^^^ (c ^^^ d) = (fmul (fat t x) x ^^^ c) ^^^ (fmul (fat u x) x ^^^ d)
      rw [h1, fmul_xor_left]
      ac_rfl
theorem fat_zeros (p : List Nat) (x : Nat) (h : ∀ c ∈ p, c = 0) : fat p x = 0 := by
  induction p with
  | nil => rfl
  | cons c t ih =>
    have h0 := h c (by simp)
    show fmul (fat t x) x ^^^ c = 0
    rw [ih (fun d hd => h d (by simp [hd])), h0, fmul_zero_left]
    rfl
theorem fat_append_zeros (p z : List Nat) (x : Nat) (h : ∀ c ∈ z, c = 0) : fat (p ++ z) x = fat p x := by
  induction p with
  | nil => simp [fat, fat_zeros z x h]
  | cons c t ih =>
    show fmul (fat (t ++ z) x) x ^^^ c = fmul (fat t x) x ^^^ c
    rw [ih]
/-- the quotient by x - r -/
def quo : List Nat → Nat → List Nat
  | [], _ => []
  | [_], _ => []
  | _ :: d :: u, r => fat (d :: u) r :: quo (d :: u) r
theorem quo_length (p : List Nat) (r : Nat) : (quo p r).length = p.length - 1 := by
  induction p with
  | nil => rfl
  | cons c t ih => cases t with
    | nil => rfl
    | cons d u =>
      simp only [quo, List.length_cons, ih]
      omega
theorem quo_lt (p : List Nat) (r : Nat) (hp : ∀ c ∈ p, c < 256) : ∀ c ∈ quo p r, c < 256 := by
  induction p with
  | nil => simp [quo]
  | cons c t ih => cases t with
    | nil => simp [quo]
    | cons d u =>
      intro e he
      simp only [quo, List.mem_cons] at he
      rcases he with rfl | he
      · exact fat_lt _ _ fun z hz => hp z (List.mem_cons_of_mem _ hz)
      · exact ih (fun z hz => hp z (List.mem_cons_of_mem _ hz)) e he
theorem quo_last (p : List Nat) (r : Nat) (h : 2 ≤ p.length) : (quo p r).getLastD 0 = p.getLastD 0 := by
  induction p with
  | nil => simp at h
  | cons c t ih => cases t with
    | nil => simp at h
    | cons d u => cases u with
      | nil => simp [quo, fat, fmul_zero_left]
      | cons e v =>
        have := ih (by simp)
        simp only [quo, List.getLastD_cons] at this ⊢
        exact this
theorem fat_quo (p : List Nat) (r x : Nat) (hp : ∀ c ∈ p, c < 256) (hr : r < 256) (hx : x < 256) : fat p x = fat p r ^^^ fmul (x ^^^ r) (fat (quo p r) x) := by
  induction p with
  | nil => simp [fat, quo, fmul_zero_right]
  | cons c t ih => cases t with
    | nil => simp [fat, quo, fmul_zero_left, fmul_zero_right]
    | cons d u =>
      have ht : ∀ z ∈ d :: u, z < 256 := fun z hz => hp z (List.mem_cons_of_mem _ hz)
      have h := ih ht
      have hT := fat_lt (d :: u) r ht
      have hQ := fat_lt (quo (d :: u) r) x (quo_lt _ _ ht)
      have hxr : x ^^^ r < 256 := Nat.xor_lt_two_pow (n := 8) hx hr
      show fmul (fat (d :: u) x) x ^^^ c = (fmul (fat (d :: u) r) r ^^^ c) ^^^ fmul (x ^^^ r) (fmul (fat (quo (d :: u) r) x) x ^^^ fat (d :: u) r)
      generalize fat (d :: u) r = T at *
      generalize fat (quo (d :: u) r) x = Q at *
      rw [h, fmul_xor_left, fmul_xor_right, fmul_assoc _ _ _ hxr hQ hx, fmul_xor_left x r T, fmul_comm x T hx hT, fmul_comm r T hr hT]
      generalize fmul T x = A
      generalize fmul (x ^^^ r) (fmul Q x) = B
      generalize fmul T r = C
      have : (C ^^^ c) ^^^ (B ^^^ (A ^^^ C)) = (C ^^^ C) ^^^ ((A ^^^ B) ^^^ c) := by ac_rfl
      rw [this, Nat.xor_self, Nat.zero_xor]
theorem xor_ne {x r : Nat} (h : x ≠ r) : x ^^^ r ≠ 0 := by
  intro h0
  apply h
  have : x = (x ^^^ r) ^^^ r := by rw [Nat.xor_assoc, Nat.xor_self, Nat.xor_zero]
  rw [this, h0, Nat.zero_xor]
/-- LAGRANGE -/
theorem roots_le (n : Nat) : ∀ (p l : List Nat), p.length = n + 1 → (∀ c ∈ p, c < 256) → p.getLastD 0 ≠ 0 → l.Nodup → (∀ x ∈ l, x < 256 ∧ fat p x = 0) → l.length ≤ n := by
  induction n with
  | zero =>
    intro p l hl _ hlast _ hr
    match p, hl with
    | [c], _ =>
      cases l with
      | nil => simp
      | cons x l =>
        have := (hr x (by simp)).2
        simp [fat, fmul_zero_left] at this
        simp at hlast
        exact absurd this hlast
  | succ n ih =>
    intro p l hl hp hlast hnd hr
    cases l with
    | nil => simp
    | cons r l =>
      have hr0 := hr r (by simp)
      have hq := ih (quo p r) l (by rw [quo_length]; omega) (quo_lt p r hp) (by rw [quo_last p r (by omega)]; exact hlast) (List.nodup_cons.1 hnd).2 (fun x hx => by
        have hx0 := hr x (by simp [hx])
        refine ⟨hx0.1, ?_⟩
        have hne : x ≠ r := fun e => (List.nodup_cons.1 hnd).1 (e ▸ hx)
        have h := fat_quo p r x hp hr0.1 hx0.1
        rw [hx0.2, hr0.2, Nat.zero_xor] at h
        exact (fmul_eq_zero _ _ (Nat.xor_lt_two_pow (n := 8) hx0.1 hr0.1) (fat_lt _ _ (quo_lt p r hp)) h.symm).resolve_left (xor_ne hne))
      simp; omega
/-- how many numbers below n are roots -/
def rootsN (p : List Nat) (n : Nat) : Nat := ((List.range n).filter fun x => fat p x == 0).length
theorem rootsN_succ (p : List Nat) (n : Nat) : rootsN p (n + 1) = rootsN p n + if fat p n = 0 then 1 else 0 := by
  unfold rootsN
  rw [List.range_succ, List.filter_append]
  by_cases h : fat p n = 0 <;> simp [h]
theorem rootsN_le (p : List Nat) (n : Nat) : rootsN p n ≤ n := by
  unfold rootsN
  exact Nat.le_trans (List.length_filter_le _ _) (by simp)
theorem rootsN_all (p : List Nat) (h : ∀ c ∈ p, c = 0) : rootsN p 256 = 256 := by
  unfold rootsN
  rw [List.filter_eq_self.2 (fun x _ => by simp [fat_zeros p x h])]
  simp
/-- the degree of the first k coefficients, and 1: 0 if all are 0 -/
def degK (p : List Nat) : Nat → Nat
  | 0 => 0
  | k + 1 => if p.getD k 0 ≠ 0 then k + 1 else degK p k
theorem degK_le (p : List Nat) (k : Nat) : degK p k ≤ k := by
  induction k with
  | zero => simp [degK]
  | succ k ih => unfold degK; split <;> omega
theorem degK_zero (p : List Nat) (k : Nat) (h : degK p k = 0) : ∀ i, i < k → p.getD i 0 = 0 := by
  induction k with
  | zero => intro i hi; omega
  | succ k ih =>
    intro i hi
    unfold degK at h
    split at h
    · omega
    · by_cases e : i = k
      · subst e; rename_i hn; simpa using hn
      · exact ih h i (by omega)
theorem degK_pos (p : List Nat) (k d : Nat) (h : degK p k = d + 1) : p.getD d 0 ≠ 0 ∧ ∀ i, d < i → i < k → p.getD i 0 = 0 := by
  induction k with
  | zero => simp [degK] at h
  | succ k ih =>
    unfold degK at h
    split at h
    · obtain rfl : k = d := by omega
      rename_i hn
      exact ⟨hn, fun i h1 h2 => by omega⟩
    · rename_i hn
      refine ⟨(ih h).1, fun i h1 h2 => ?_⟩
      by_cases e : i = k
      · subst e; simpa using hn
      · exact (ih h).2 i h1 (by omega)
theorem roots_law (p : List Nat) (hp : ∀ c ∈ p, c < 256) : (degK p p.length = 0 → rootsN p 256 = 256) ∧ (∀ d, degK p p.length = d + 1 → rootsN p 256 ≤ d) := by
  constructor
  · intro h
    apply rootsN_all
    intro c hc
    obtain ⟨i, hi, rfl⟩ := List.mem_iff_getElem.1 hc
    have := degK_zero p p.length h i hi
    simpa [List.getD_eq_getElem?_getD, hi] using this
  · intro d h
    have hd : d < p.length := by have := degK_le p p.length; omega
    have ⟨hnz, hz⟩ := degK_pos p p.length d h
    have e : p = p.take (d + 1) ++ p.drop (d + 1) := (List.take_append_drop _ _).symm
    have hdrop : ∀ c ∈ p.drop (d + 1), c = 0 := by
      intro c hc
      obtain ⟨i, hi, rfl⟩ := List.mem_iff_getElem.1 hc
      have hi' : i < p.length - (d + 1) := by simpa using hi
      have := hz (d + 1 + i) (by omega) (by omega)
      rw [List.getElem_drop]
      simpa [List.getD_eq_getElem?_getD, show d + 1 + i < p.length by omega] using this
    have hroots : rootsN p 256 = rootsN (p.take (d + 1)) 256 := by
      unfold rootsN
      congr 1
      apply List.filter_congr
      intro x _
      rw [e, fat_append_zeros _ _ _ hdrop, ← e]
    rw [hroots]
    refine roots_le d (p.take (d + 1)) _ (by simp; omega) (fun c hc => hp c (List.mem_of_mem_take hc)) ?_ (List.nodup_range.filter _) ?_
    · rw [List.getLastD_eq_getLast?, List.getLast?_eq_getElem?]
      have : (p.take (d + 1)).length = d + 1 := by simp; omega
      rw [this]
      simpa [List.getD_eq_getElem?_getD, List.getElem?_take] using hnz
    · intro x hx
      simp only [List.mem_filter, List.mem_range, beq_iff_eq] at hx
      exact hx
end Go.Proofs.Ytcocdlhjfbpkfaa.Plain
