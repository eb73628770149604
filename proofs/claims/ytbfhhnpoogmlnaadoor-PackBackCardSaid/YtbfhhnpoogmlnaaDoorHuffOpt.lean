/- Huffman: the merges of the two least weights cost no more than any lengths that satisfy the Kraft inequality. -/
import Derived.WalkKit
namespace Go.Proofs.YtbfhhnpoogmlnaaDoor
namespace Plain
set_option linter.unusedVariables false
/-- what lengths cost -/
def cst : List (Nat × Nat) → Nat
  | [] => 0
  | p :: L => p.1 * p.2 + cst L
/-- their Kraft sum, in whole numbers -/
def kra (K : Nat) : List (Nat × Nat) → Nat
  | [] => 0
  | p :: L => 2 ^ (K - p.2) + kra K L
theorem cst_perm {L M : List (Nat × Nat)} (h : L.Perm M) : cst L = cst M := by
  induction h with
  | nil => rfl
  | cons x _ ih => simp only [cst, ih]
  | swap x y l => simp only [cst]; omega
  | trans _ _ a b => exact a.trans b
theorem kra_perm {K : Nat} {L M : List (Nat × Nat)} (h : L.Perm M) : kra K L = kra K M := by
  induction h with
  | nil => rfl
  | cons x _ ih => simp only [kra, ih]
  | swap x y l => simp only [kra]; omega
  | trans _ _ a b => exact a.trans b
theorem map_perm {α β : Type} {f : α → β} {l m : List β} (h : l.Perm m) : ∀ (L : List α), L.map f = l → ∃ M, L.Perm M ∧ M.map f = m := by
  induction h with
  | nil => exact fun L hL => ⟨L, .refl _, hL⟩
  | cons x _ ih =>
    intro L hL
    cases L with
    | nil => cases hL
    | cons y L =>
      simp only [List.map_cons, List.cons.injEq] at hL
      obtain ⟨M, h1, h2⟩ := ih L hL.2
      exact ⟨y :: M, h1.cons y, by rw [List.map_cons, h2, hL.1]⟩
  | swap x y l =>
    intro L hL
    match L, hL with
    | a :: b :: L, hL =>
      simp only [List.map_cons, List.cons.injEq] at hL
      exact ⟨b :: a :: L, .swap _ _ _, by rw [List.map_cons, List.map_cons, hL.1, hL.2.1, hL.2.2]⟩
  | trans _ _ a b =>
    intro L hL
    obtain ⟨M, h1, h2⟩ := a L hL
    obtain ⟨N, h3, h4⟩ := b M h2
    exact ⟨N, h1.trans h3, h4⟩
/-- the merges of the two least: what they cost -/
inductive Mrg : List Nat → Nat → Prop
  | one (a : Nat) : Mrg [a] 0
  | none : Mrg [] 0
  | step {F R : List Nat} {a b c : Nat} (h : F.Perm (a :: b :: R)) (hab : a ≤ b) (hb : ∀ r ∈ R, b ≤ r) (hm : Mrg ((a + b) :: R) c) : Mrg F (a + b + c)
theorem two_le {a w x y : Nat} (h : a ≤ w) (g : x ≤ y) : a * y + w * x ≤ a * x + w * y := by
  obtain ⟨d, rfl⟩ := Nat.exists_eq_add_of_le h
  obtain ⟨e, rfl⟩ := Nat.exists_eq_add_of_le g
  simp only [Nat.add_mul, Nat.mul_add]
  omega
/-- the least weight takes the greatest length -/
theorem front {K a : Nat} : ∀ (M : List (Nat × Nat)) (x : Nat), (∀ p ∈ M, a ≤ p.1) → ∃ l N, x ≤ l ∧ N.map Prod.fst = M.map Prod.fst ∧ (∀ p ∈ N, p.2 ≤ l) ∧ 2 ^ (K - l) + kra K N = 2 ^ (K - x) + kra K M ∧ a * l + cst N ≤ a * x + cst M ∧ ∀ B, x ≤ B → (∀ p ∈ M, p.2 ≤ B) → l ≤ B
  | [], x, _ => ⟨x, [], Nat.le_refl _, rfl, by simp, rfl, Nat.le_refl _, fun B h _ => h⟩
  | (w, y) :: M, x, h => by
    have hw : a ≤ w := h (w, y) List.mem_cons_self
    have hM : ∀ p ∈ M, a ≤ p.1 := fun p hp => h p (List.mem_cons_of_mem _ hp)
    rcases Nat.le_total y x with hyx | hxy
    · obtain ⟨l, N, h1, h2, h3, h4, h5, h6⟩ := front (K := K) M x hM
      refine ⟨l, (w, y) :: N, h1, by rw [List.map_cons, List.map_cons, h2], fun p hp => ?_, by simp only [kra]; omega, by simp only [cst]; omega, fun B hx hB => h6 B hx fun p hp => hB p (List.mem_cons_of_mem _ hp)⟩
      rcases List.mem_cons.1 hp with rfl | hp
      · show y ≤ l
        omega
      · exact h3 p hp
    · obtain ⟨l, N, h1, h2, h3, h4, h5, h6⟩ := front (K := K) M y hM
      have h7 := two_le hw hxy
      refine ⟨l, (w, x) :: N, by omega, by rw [List.map_cons, List.map_cons, h2], fun p hp => ?_, by simp only [kra]; omega, by simp only [cst]; omega, fun B hx hB => h6 B (hB (w, y) List.mem_cons_self) fun p hp => hB p (List.mem_cons_of_mem _ hp)⟩
      rcases List.mem_cons.1 hp with rfl | hp
      · show x ≤ l
        omega
      · exact h3 p hp
theorem kra_dvd {K b : Nat} (hb : b ≤ K) : ∀ (M : List (Nat × Nat)), (∀ p ∈ M, p.2 ≤ b) → ∃ m, kra K M = 2 ^ (K - b) * m
  | [], _ => ⟨0, rfl⟩
  | (w, y) :: M, h => by
    obtain ⟨m, hm⟩ := kra_dvd hb M fun p hp => h p (List.mem_cons_of_mem _ hp)
    have hy : y ≤ b := h (w, y) List.mem_cons_self
    refine ⟨2 ^ (b - y) + m, ?_⟩
    simp only [kra, hm, Nat.mul_add, ← Nat.pow_add]
    congr 2
    omega
theorem mrg_least {K : Nat} {F : List Nat} {c : Nat} (h : Mrg F c) : ∀ (L : List (Nat × Nat)), (L.map Prod.fst).Perm F → (∀ p ∈ L, p.2 ≤ K) → kra K L ≤ 2 ^ K → c ≤ cst L := by
  induction h with
  | one a => exact fun L _ _ _ => Nat.zero_le _
  | none => exact fun L _ _ _ => Nat.zero_le _
  | @step F R a b c hF hab hb hm ih =>
    intro L hL hK hk
    obtain ⟨P, hP, hPm⟩ := map_perm (hL.trans hF) L rfl
    match P, hPm with
    | (a', x) :: (b', y) :: M, hPm =>
      simp only [List.map_cons, List.cons.injEq] at hPm
      obtain ⟨ha', hb', hM⟩ := hPm
      subst ha' hb'
      have hKx : ∀ p ∈ (a', x) :: (b', y) :: M, p.2 ≤ K := fun p hp => hK p (hP.symm.mem_iff.1 hp)
      have hka := kra_perm (K := K) hP
      have hca := cst_perm hP
      have hMb : ∀ p ∈ M, b' ≤ p.1 := fun p hp => hb p.1 (by rw [← hM]; exact List.mem_map_of_mem hp)
      obtain ⟨la, N, h1, h2, h3, h4, h5, h6⟩ := front (K := K) (a := a') ((b', y) :: M) x (fun p hp => by
        rcases List.mem_cons.1 hp with rfl | hp
        · exact hab
        · exact Nat.le_trans hab (hMb p hp))
      have hlaK : la ≤ K := h6 K (hKx (a', x) List.mem_cons_self) fun p hp => hKx p (List.mem_cons_of_mem _ hp)
      match N, h2 with
      | (b2, y2) :: N, h2 =>
        simp only [List.map_cons, List.cons.injEq] at h2
        obtain ⟨hb2, hN⟩ := h2
        subst hb2
        obtain ⟨lb, N1, g1, g2, g3, g4, g5, g6⟩ := front (K := K) (a := b2) N y2 (fun p hp => by
          refine hb p.1 ?_
          rw [← hM, ← hN]
          exact List.mem_map_of_mem hp)
        have hlb : lb ≤ la := g6 la (h3 (b2, y2) List.mem_cons_self) fun p hp => h3 p (List.mem_cons_of_mem _ hp)
        simp only [kra, cst] at h4 h5 g4 g5 hka hca
        have hsum : 2 ^ (K - la) + 2 ^ (K - lb) + kra K N1 ≤ 2 ^ K := by omega
        have hpa : 0 < 2 ^ (K - la) := Nat.two_pow_pos _
        obtain ⟨m, hm1⟩ := kra_dvd (by omega : lb ≤ K) N1 g3
        have h2K : 2 ^ K = 2 ^ (K - lb) * 2 ^ lb := by rw [← Nat.pow_add]; congr 1; omega
        have hlt : 1 + m < 2 ^ lb := by
          rw [h2K, hm1] at hsum
          refine Nat.lt_of_mul_lt_mul_left (a := 2 ^ (K - lb)) ?_
          rw [Nat.mul_add, Nat.mul_one]
          omega
        have hlb1 : 1 ≤ lb := by
          rcases Nat.eq_zero_or_pos lb with h0 | h0
          · subst h0
            simp at hlt
          · exact h0
        have hnew : kra K ((a' + b2, lb - 1) :: N1) ≤ 2 ^ K := by
          simp only [kra]
          have e1 : K - (lb - 1) = (K - lb) + 1 := by omega
          rw [e1, Nat.pow_succ, hm1, h2K, ← Nat.mul_add]
          exact Nat.mul_le_mul_left _ (by omega)
        have hfst : (((a' + b2, lb - 1) :: N1).map Prod.fst).Perm ((a' + b2) :: R) := by
          rw [List.map_cons, g2, hN, hM]
        have hbK : ∀ p ∈ (a' + b2, lb - 1) :: N1, p.2 ≤ K := fun p hp => by
          rcases List.mem_cons.1 hp with rfl | hp
          · show lb - 1 ≤ K
            omega
          · exact Nat.le_trans (g3 p hp) (by omega)
        have hc := ih _ hfst hbK hnew
        simp only [cst] at hc
        obtain ⟨l0, rfl⟩ : ∃ l0, lb = l0 + 1 := ⟨lb - 1, by omega⟩
        have e3 : (a' + b2) * (l0 + 1 - 1) = a' * l0 + b2 * l0 := by rw [Nat.add_sub_cancel, Nat.add_mul]
        have e4 : b2 * (l0 + 1) = b2 * l0 + b2 := Nat.mul_succ _ _
        have e5 : a' * l0 + a' ≤ a' * la := by
          have := Nat.mul_le_mul_left a' hlb
          rw [Nat.mul_succ] at this
          exact this
        omega
end Plain
end Go.Proofs.YtbfhhnpoogmlnaaDoor
