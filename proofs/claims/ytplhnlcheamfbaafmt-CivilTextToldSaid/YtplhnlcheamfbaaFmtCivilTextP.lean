/- Plain law of dates as texts: read as written, ordered as days, written as read. -/
import Derived.Test.YtplhnlcheamfbaaFmtCivilPlain
import Derived.Test.YtplhnlcheamfbaaFmtFloatPlain
namespace Go.Proofs.YtplhnlcheamfbaaFmt
namespace Plain
def dgs4 (y : Nat) : List Nat := [48 + y / 1000, 48 + y / 100 % 10, 48 + y / 10 % 10, 48 + y % 10]
def dgs2 (m : Nat) : List Nat := [48 + m / 10, 48 + m % 10]
/-- a date's text -/
def dtext (y m d : Nat) : List Nat := dgs4 y ++ 45 :: (dgs2 m ++ 45 :: dgs2 d)
theorem less_dgs2 (m m' : Nat) (x y : List Nat) (_h : m < 100) (_h' : m' < 100) : less (dgs2 m ++ x) (dgs2 m' ++ y) = (decide (m < m') || (m == m' && less x y)) := by
  simp only [dgs2, List.cons_append, List.nil_append, less]
  rw [Bool.eq_iff_iff]
  simp only [Bool.or_eq_true, Bool.and_eq_true, decide_eq_true_eq, beq_iff_eq]
  generalize less x y = b
  cases b
  · simp only [Bool.false_eq_true, and_false, or_false]
    omega
  · simp only [and_true]
    omega
theorem less_dgs4 (m m' : Nat) (x y : List Nat) (h : m < 10000) (h' : m' < 10000) : less (dgs4 m ++ x) (dgs4 m' ++ y) = (decide (m < m') || (m == m' && less x y)) := by
  simp only [dgs4, List.cons_append, List.nil_append, less]
  rw [Bool.eq_iff_iff]
  simp only [Bool.or_eq_true, Bool.and_eq_true, decide_eq_true_eq, beq_iff_eq]
  generalize less x y = b
  cases b
  · simp only [Bool.false_eq_true, and_false, or_false]
    omega
  · simp only [and_true]
    omega
theorem less_dtext {y m d y' m' d' : Nat} (hy : y < 10000) (hy' : y' < 10000) (hm : m < 100) (hm' : m' < 100) (hd : d < 100) (hd' : d' < 100) :
    less (dtext y m d) (dtext y' m' d') = decide (y < y' ∨ y = y' ∧ (m < m' ∨ m = m' ∧ d < d')) := by
  unfold dtext
  rw [less_dgs4 _ _ _ _ hy hy']
  have e1 : less (45 :: (dgs2 m ++ 45 :: dgs2 d)) (45 :: (dgs2 m' ++ 45 :: dgs2 d')) = less (dgs2 m ++ 45 :: dgs2 d) (dgs2 m' ++ 45 :: dgs2 d') := by simp [less]
  rw [e1, less_dgs2 _ _ _ _ hm hm']
  have e2 : less (45 :: dgs2 d) (45 :: dgs2 d') = less (dgs2 d ++ []) (dgs2 d' ++ []) := by simp [less]
  rw [e2, less_dgs2 _ _ _ _ hd hd', Bool.eq_iff_iff]
  simp only [less, Bool.and_false, Bool.or_false, Bool.or_eq_true, Bool.and_eq_true, decide_eq_true_eq, beq_iff_eq]
/-- what digits stand for -/
def dnm (l : List Nat) : Nat := l.foldl (fun n c => n * 10 + (c - 48)) 0
def isDg (l : List Nat) : Prop := ∀ c ∈ l, 48 ≤ c ∧ c ≤ 57
instance (l : List Nat) : Decidable (isDg l) := inferInstanceAs (Decidable (∀ c ∈ l, 48 ≤ c ∧ c ≤ 57))
/-- a text that has a date's form -/
def DForm (S : List Nat) : Prop := S.length = 10 ∧ S.getD 4 0 = 45 ∧ S.getD 7 0 = 45 ∧ isDg (S.take 4) ∧ isDg ((S.drop 5).take 2) ∧ isDg (S.drop 8)
instance (S : List Nat) : Decidable (DForm S) := inferInstanceAs (Decidable (_ ∧ _))
def sY (S : List Nat) : Nat := dnm (S.take 4)
def sM (S : List Nat) : Nat := dnm ((S.drop 5).take 2)
def sD (S : List Nat) : Nat := dnm (S.drop 8)
theorem dtext_form {y m d : Nat} (hy : y < 10000) (hm : m < 100) (hd : d < 100) : DForm (dtext y m d) ∧ sY (dtext y m d) = y ∧ sM (dtext y m d) = m ∧ sD (dtext y m d) = d := by
  refine ⟨⟨rfl, rfl, rfl, ?_, ?_, ?_⟩, ?_, ?_, ?_⟩
  · intro c hc
    simp only [dtext, dgs4, dgs2, List.cons_append, List.nil_append, List.take_succ_cons, List.take_zero, List.mem_cons, List.not_mem_nil, or_false] at hc
    omega
  · intro c hc
    simp only [dtext, dgs4, dgs2, List.cons_append, List.nil_append, List.take_succ_cons, List.take_zero, List.drop_succ_cons, List.drop_zero, List.mem_cons, List.not_mem_nil, or_false] at hc
    omega
  · intro c hc
    simp only [dtext, dgs4, dgs2, List.cons_append, List.nil_append, List.drop_succ_cons, List.drop_zero, List.mem_cons, List.not_mem_nil, or_false] at hc
    omega
  · simp only [sY, dnm, dtext, dgs4, dgs2, List.cons_append, List.nil_append, List.take_succ_cons, List.take_zero, List.foldl_cons, List.foldl_nil]
    omega
  · simp only [sM, dnm, dtext, dgs4, dgs2, List.cons_append, List.nil_append, List.take_succ_cons, List.take_zero, List.drop_succ_cons, List.drop_zero, List.foldl_cons, List.foldl_nil]
    omega
  · simp only [sD, dnm, dtext, dgs4, dgs2, List.cons_append, List.nil_append, List.drop_succ_cons, List.drop_zero, List.foldl_cons, List.foldl_nil]
    omega
theorem form_dtext {S : List Nat} (h : DForm S) : S = dtext (sY S) (sM S) (sD S) ∧ sY S < 10000 ∧ sM S < 100 ∧ sD S < 100 := by
  obtain ⟨hl, h4, h7, ha, hb, hc⟩ := h
  match S, hl with
  | [c0, c1, c2, c3, c4, c5, c6, c7, c8, c9], _ =>
    have h4 : c4 = 45 := h4
    have h7 : c7 = 45 := h7
    subst h4 h7
    have a0 := ha c0 (by simp)
    have a1 := ha c1 (by simp)
    have a2 := ha c2 (by simp)
    have a3 := ha c3 (by simp)
    have b5 := hb c5 (by simp)
    have b6 := hb c6 (by simp)
    have d8 := hc c8 (by simp)
    have d9 := hc c9 (by simp)
    simp only [sY, sM, sD, dnm, dtext, dgs4, dgs2, List.cons_append, List.nil_append, List.take_succ_cons, List.take_zero, List.drop_succ_cons, List.drop_zero, List.foldl_cons, List.foldl_nil, List.cons.injEq, and_true]
    refine ⟨⟨?_, ?_, ?_, ?_, trivial, ?_, ?_, trivial, ?_, ?_⟩, ?_, ?_, ?_⟩ <;> omega
/-- of two days the earlier one has the smaller date -/
theorem date_lt {y m d n y' m' d' n' : Int} (h : IsDate y m d n) (k : IsDate y' m' d' n') : n < n' ↔ (y < y' ∨ y = y' ∧ (m < m' ∨ m = m' ∧ d < d')) := by
  have main : ∀ {y m d n y' m' d' n' : Int}, IsDate y m d n → IsDate y' m' d' n' → (y < y' ∨ y = y' ∧ (m < m' ∨ m = m' ∧ d < d')) → n < n' := by
    intro y m d n y' m' d' n' h k hlt
    have hr := h.year
    have kr := k.year
    obtain ⟨h1, h2, h3, h4, h5, h6, h7⟩ := h
    obtain ⟨k1, k2, k3, k4, k5, k6, k7⟩ := k
    rcases hlt with hlt | ⟨rfl, hlt | ⟨rfl, hlt⟩⟩
    · have := ybeg_mono (y + 1) y' (by omega) (by omega)
      omega
    · have := mcum_mono y m m' h3 hlt k4
      omega
    · omega
  constructor
  · intro hn
    by_cases hlt : (y < y' ∨ y = y' ∧ (m < m' ∨ m = m' ∧ d < d'))
    · exact hlt
    · exfalso
      by_cases heq : y = y' ∧ m = m' ∧ d = d'
      · obtain ⟨rfl, rfl, rfl⟩ := heq
        have e1 := h.2.2.2.2.2.2
        have e2 := k.2.2.2.2.2.2
        omega
      · have := main k h (by omega)
        omega
  · exact main h k
end Plain
end Go.Proofs.YtplhnlcheamfbaaFmt
